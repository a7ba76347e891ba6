/- My texts Vf7, Vf8, Vf9, VfA, VfB, Vl1, merged. -/
import Derived.Test.YteblddnoegbalaaGreatM24
import Derived.Test.YteblddnoegbalaaGreatM21
import Derived.Test.YteblddnoegbalaaGreatM20
import Derived.Test.YteblddnoegbalaaGreatM19
import Derived.Test.YteblddnoegbalaaGreatM11
import Derived.Test.YteblddnoegbalaaGreatM08
import Derived.Test.YteblddnoegbalaaGreatM07
import Derived.Test.YteblddnoegbalaaGreatM06
import Derived.Test.YteblddnoegbalaaGreatM05
import Derived.Test.YteblddnoegbalaaGreatM04
import Derived.Test.YteblddnoegbalaaGreatM03
import Derived.Test.YteblddnoegbalaaGreatM00
import Derived.Test.YteblddnoegbalaaGreatProg
import Derived.WalkKit
import Derived.Lib.Hide
import Derived.Deep.QuietTactic
import Derived.BigQuiet
import Derived.WalkSpells
import Derived.Lib.SliceRun
import Derived.MapKept
import Derived.Maps.OwnSet
import Derived.Maps.OwnOps
import Derived.Test.YteblddnoegbalaaGreatM02
import Derived.Test.YteblddnoegbalaaGreatM01
import Derived.Deep.AppendLies
import Derived.Lib.Bytealg
import Derived.Deep.DeepCutAuto
import Derived.RangeFuncNested
import Derived.RangeFuncBound
import Derived.RangeFuncCalls
import Derived.RangeFuncLeaves
import Derived.OwnWalkIn
import Derived.TacticsInMore
import Derived.LoopNIn
import Derived.LoopIn
import Derived.Stop.RegionWithIn
import Derived.Shelf.Abstract
import Derived.Sort.QuietThIn
import Derived.RangeFuncBox
import Derived.Maps.OwnIn
import Derived.Lib.SlicesCompact
import Derived.Shelf.Sort.Plain
import Derived.Shelf.Slices.CompactI
import Derived.Shelf.Slices.In.SortNone
import Derived.Shelf.Strconv.Itoa3
import Derived.Shelf.Strings.BuilderK
import Derived.Shelf.Slices.SearchI
import Derived.Shelf.Slices.Empties
import Derived.Sort.OwnSortedInts
import Derived.Lib.RowBridge
import Derived.Test.YteblddnoegbalaaGreatM10
import Derived.Test.YteblddnoegbalaaGreatM09
import Derived.Maps.RangeWalk
import Derived.Deep.OwnRows
import Derived.Test.YteblddnoegbalaaGreatM14
import Derived.Test.YteblddnoegbalaaGreatM13
import Derived.Test.YteblddnoegbalaaGreatM12
import Derived.Laws.EntriesVeiled
import Derived.Deep.AppendSrc
import Derived.Deep.RegionWith
import Derived.Test.YteblddnoegbalaaGreatM15
import Derived.Deep.LoopGhost
import Derived.Deep.DrawnRows
import Derived.Test.YteblddnoegbalaaGreatM18
import Derived.Test.YteblddnoegbalaaGreatM16
import Derived.Deep.DeepMust
import Derived.Test.YteblddnoegbalaaGreatM17
import Derived.ProofKit
import Derived.OpenShut
import Derived.ChangeArms
import Derived.SizedLaws
import Derived.Laws.Cover1
import Derived.Test.YteblddnoegbalaaGreatM23
import Derived.Test.YteblddnoegbalaaGreatM22
import Derived.Lib.AppendZeros

namespace Go.Proofs.YteblddnoegbalaaGreat
open Go.RowKit Go.MapKept
attribute [local go_sem] memUpon
def stM (kb : Nat) : Int → Option Value :=
  upd (upd (upd (fun _ => none) 1 (some (.func (.func 75) #[.pointer (some ⟨kb, 0, none⟩)] #[]))) 2 (some (.func (.func 76) #[.pointer (some ⟨kb, 0, none⟩)] #[]))) 3 (some (.func (.func 77) #[.pointer (some ⟨kb, 0, none⟩)] #[]))
theorem SBx.st {s : ST} {vl vk vs vo : Value} {b : Nat} {W : World} (h : SBx s vl vk vs vo b W) (hk : 0 ≤ s.kind ∧ s.kind ≤ 255) : STIs W (.agg #[.int .u8 s.kind, vl, vk, .int .i64 s.c.bound, vs, vo]) s := by
  obtain ⟨_, _, e, h1, h2, h3⟩ := h.pb
  simp only [Value.agg.injEq, Array.mk.injEq, List.cons.injEq, and_true] at e
  obtain ⟨rfl, rfl⟩ := e
  exact ⟨_, _, _, _, rfl, hk, ⟨h1, h2, h3⟩, h.set, h.ops⟩
set_option maxHeartbeats 4000000 in
set_option maxRecDepth 100000 in
theorem kstep_any {w0 W : World} {p : GP} {kb : Nat} {vn vs vr vm v : Value} {L : List CQ} (h : KSt w0 p kb vn vs vr vm v L W) (hv : validE p = 0) (hl : L.length ≤ 800000) (u : Value) (s : ST) (hs : STIs W u s) :
    Calls Tryz.prog 41 #[.pointer (some ⟨kb, 0, none⟩), u] W fun e w' => e = .returned (.bool (stepB p (L.map (·.1)) s)) ∧ Below W.heap.size W w' := by
  obtain ⟨vl, vk, vs, vo, rfl, hsl⟩ := hs
  have hkk := hsl.kind
  have hal := bal (Below.refl W.heap.size W) (.cells #[.int .u8 s.kind, vl, vk, .int .i64 s.c.bound, vs, vo] 41)
  have HS := Lib.hid (h.on hal)
  have HX := Lib.hid (SBx.new hsl)
  have HB := Lib.hid hal
  have HVE := Lib.hid hv
  have HKK := Lib.hid hkk
  clear h hsl hal hv
  go_enter Tryz.func41, Tryz.ntmps41
  go_upto_region 1 with fail
  generalize W.alloc (.cells #[.int .u8 s.kind, vl, vk, .int .i64 s.c.bound, vs, vo] 41) = W0 at *
  have hmm := @run_makeMap Tryz.prog
  have HM0 : Hid (MapIs (Value.int .u8) (W0.alloc (.map #[] 0)) W0.heap.size (fun _ => none)) := Lib.hid (MapIs.made W0)
  have HB0 : Hid (Below W0.heap.size W0 (W0.alloc (.map #[] 0))) := Lib.hid (bal (Below.refl _ _) _)
  go_upto_region 2 with (first
    | ((refine wpList_minsert _ (W0.heap.size) (3 : Int) (.func (.func 77) #[.pointer (some ⟨kb, 0, none⟩)] #[]) kvU8 122 5 84 Tryz.underlying122 Tryz.underlying5 rfl _ _ _ rfl rfl rfl rfl HM2.out ?_); intro w3 hm3 hg3 hs3; have HM3 : Hid (MapIs (Value.int .u8) w3 W0.heap.size (stM kb)) := Lib.hid hm3; have HB3 := Lib.hid (below_put36 HB2.out hg3 (Nat.le_refl _) HB2.out.size); clear hm3 hg3 hs3)
    | ((refine wpList_minsert _ (W0.heap.size) (2 : Int) (.func (.func 76) #[.pointer (some ⟨kb, 0, none⟩)] #[]) kvU8 122 5 84 Tryz.underlying122 Tryz.underlying5 rfl _ _ _ rfl rfl rfl rfl HM1.out ?_); intro w2 hm2 hg2 hs2; have HM2 := Lib.hid hm2; have HB2 := Lib.hid (below_put36 HB1.out hg2 (Nat.le_refl _) HB1.out.size); clear hm2 hg2 hs2)
    | ((refine wpList_minsert _ (W0.heap.size) (1 : Int) (.func (.func 75) #[.pointer (some ⟨kb, 0, none⟩)] #[]) kvU8 122 5 84 Tryz.underlying122 Tryz.underlying5 rfl _ _ _ rfl rfl rfl rfl HM0.out ?_); intro w1 hm1 hg1 hs1; have HM1 := Lib.hid hm1; have HB1 := Lib.hid (below_put36 HB0.out hg1 (Nat.le_refl _) HB0.out.size); clear hm1 hg1 hs1))
  have HS3 := Lib.hid (HS.out.on HB3.out)
  have HX3 := Lib.hid (HX.out.on HB3.out)
  have kop := HX3.out.box.cell
  clear HM0 HM1 HM2 HB0 HB1 HB2 hmm
  by_cases hkn : s.kind ≠ 1 ∧ s.kind ≠ 2 ∧ s.kind ≠ 3
  · obtain ⟨k1, k2, k3⟩ := hkn
    have HF : Hid (stepB p (L.map (·.1)) s = false) := Lib.hid (by unfold stepB; rw [if_neg k1, if_neg k2, if_neg k3, Bool.and_false])
    have hlk := HM3.out.lookup_ok kvU8 Tryz.underlying122 Tryz.underlying5 (Tryz.zeroValue84 w3) s.kind
    simp only [stM, upd, k1, k2, k3, if_false, Option.getD_none, Option.isSome_none] at hlk
    clear k1 k2 k3
    go_wp2
    go_ret
    rw [HF.out]
    exact ⟨rfl, bon HB.out HB3.out⟩
  · have hk3 : s.kind = 1 ∨ s.kind = 2 ∨ s.kind = 3 := by omega
    clear hkn
    cases hfi : fitsB p s.c with
    | false =>
      have HFI := Lib.hid hfi
      have HF : Hid (stepB p (L.map (·.1)) s = false) := Lib.hid (by unfold stepB; rw [hfi]; rfl)
      have hlk := HM3.out.lookup_ok kvU8 Tryz.underlying122 Tryz.underlying5 (Tryz.zeroValue84 w3) s.kind
      have hso : (stM kb s.kind).isSome = true := by
        rcases hk3 with e | e | e <;> rw [e] <;> rfl
      rw [hso] at hlk
      generalize (stM kb s.kind).getD _ = FV at hlk
      clear hso
      clear hfi hk3
      go_wp2_with (go_at_call 74; (with_reducible refine (kfits_any HS3.out HVE.out _ s.c HX3.out.pb).mono ?_); rintro e w4 ⟨e4, hb4⟩; rw [HFI.out] at e4; subst e4; have HB4 := Lib.hid (bon HB3.out hb4); clear hb4)
      go_ret
      rw [HF.out]
      exact ⟨rfl, bon HB.out HB4.out⟩
    | true =>
      have HFI := Lib.hid hfi
      clear hfi
      rcases hk3 with hkd | hkd | hkd
      · obtain ⟨R, hR⟩ : ∃ R, (decide (s.set.length + s.ops.length = 0) && rupB (L.map (·.1)) s.c) = R := ⟨_, rfl⟩
        have HRR := Lib.hid hR
        have HF : Hid (stepB p (L.map (·.1)) s = R) := Lib.hid (by unfold stepB; rw [HFI.out, hkd, ← hR]; simp)
        have hlk := HM3.out.lookup_ok kvU8 Tryz.underlying122 Tryz.underlying5 (Tryz.zeroValue84 w3) (1 : Int)
        simp only [stM, upd, Int.reduceEq, if_true, if_false, Option.getD_some, Option.isSome_some] at hlk
        rw [hkd] at kop
        clear hR hkd
        go_wp2_with (first | (go_at_call 75; (with_reducible refine (krup_any HS4.out hl _ s (HX4.out.st HKK.out)).mono ?_); rintro e w7 ⟨e7, hb7⟩; rw [HRR.out] at e7; subst e7; have HB7 := Lib.hid (bon HB4.out hb7); clear hb7) | (go_at_call 74; (with_reducible refine (kfits_any HS3.out HVE.out _ s.c HX3.out.pb).mono ?_); rintro e w4 ⟨e4, hb4⟩; rw [HFI.out] at e4; subst e4; have HS4 := Lib.hid (HS3.out.on hb4); have HX4 := Lib.hid (HX3.out.on hb4); have HB4 := Lib.hid (bon HB3.out hb4); have kop4 := HX4.out.box.cell; clear hb4))
        go_ret
        rw [HF.out]
        exact ⟨rfl, bon HB.out HB7.out⟩
      · obtain ⟨R, hR⟩ : ∃ R, (decide (s.set.length = 0) && decide (runP s.ops (L.map (·.1)) = (s.c, 0))) = R := ⟨_, rfl⟩
        have HRR := Lib.hid hR
        have HF : Hid (stepB p (L.map (·.1)) s = R) := Lib.hid (by unfold stepB; rw [HFI.out, hkd, ← hR]; simp)
        have hlk := HM3.out.lookup_ok kvU8 Tryz.underlying122 Tryz.underlying5 (Tryz.zeroValue84 w3) (2 : Int)
        simp only [stM, upd, Int.reduceEq, if_true, if_false, Option.getD_some, Option.isSome_some] at hlk
        rw [hkd] at kop
        clear hR hkd
        go_wp2_with (first | (go_at_call 76; (with_reducible refine (kcut_any HS4.out hl _ s (HX4.out.st HKK.out)).mono ?_); rintro e w7 ⟨e7, hb7⟩; rw [HRR.out] at e7; subst e7; have HB7 := Lib.hid (bon HB4.out hb7); clear hb7) | (go_at_call 74; (with_reducible refine (kfits_any HS3.out HVE.out _ s.c HX3.out.pb).mono ?_); rintro e w4 ⟨e4, hb4⟩; rw [HFI.out] at e4; subst e4; have HS4 := Lib.hid (HS3.out.on hb4); have HX4 := Lib.hid (HX3.out.on hb4); have HB4 := Lib.hid (bon HB3.out hb4); have kop4 := HX4.out.box.cell; clear hb4))
        go_ret
        rw [HF.out]
        exact ⟨rfl, bon HB.out HB7.out⟩
      · obtain ⟨R, hR⟩ : ∃ R, (decide (s.ops.length = 0) && validC p s.set s.c) = R := ⟨_, rfl⟩
        have HRR := Lib.hid hR
        have HF : Hid (stepB p (L.map (·.1)) s = R) := Lib.hid (by unfold stepB; rw [HFI.out, hkd, ← hR]; simp)
        have hlk := HM3.out.lookup_ok kvU8 Tryz.underlying122 Tryz.underlying5 (Tryz.zeroValue84 w3) (3 : Int)
        simp only [stM, upd, Int.reduceEq, if_true, if_false, Option.getD_some, Option.isSome_some] at hlk
        rw [hkd] at kop
        clear hR hkd
        go_wp2_with (first | (go_at_call 77; (with_reducible refine (kloop_any HS4.out _ s (HX4.out.st HKK.out)).mono ?_); rintro e w7 ⟨e7, hb7⟩; rw [HRR.out] at e7; subst e7; have HB7 := Lib.hid (bon HB4.out hb7); clear hb7) | (go_at_call 74; (with_reducible refine (kfits_any HS3.out HVE.out _ s.c HX3.out.pb).mono ?_); rintro e w4 ⟨e4, hb4⟩; rw [HFI.out] at e4; subst e4; have HS4 := Lib.hid (HS3.out.on hb4); have HX4 := Lib.hid (HX3.out.on hb4); have HB4 := Lib.hid (bon HB3.out hb4); have kop4 := HX4.out.box.cell; clear hb4))
        go_ret
        rw [HF.out]
        exact ⟨rfl, bon HB.out HB7.out⟩
end Go.Proofs.YteblddnoegbalaaGreat
namespace Go.Proofs.YteblddnoegbalaaGreat
open Go.RowKit
attribute [local go_sem] memUpon
theorem badG_at {p : GP} : ∀ {l : List PBC} {k : Nat}, (∀ j, j < k → fitsB p (ixC l j) = true) → k < l.length → fitsB p (ixC l k) = false → badG p l = k
  | [], k, _, h, _ => absurd h (by simp)
  | c :: l, 0, _, _, h => by
    have : fitsB p c = false := h
    unfold badG
    rw [this]
    rfl
  | c :: l, k + 1, h1, h2, h3 => by
    have e : fitsB p c = true := h1 0 (by omega)
    unfold badG
    rw [if_pos e, badG_at (fun j hj => h1 (j + 1) (by omega)) (by simpa using h2) h3]
theorem badG_end36 {p : GP} : ∀ {l : List PBC}, (∀ j, j < l.length → fitsB p (ixC l j) = true) → badG p l = l.length
  | [], _ => rfl
  | c :: l, h => by
    have e : fitsB p c = true := h 0 (by simp)
    unfold badG
    rw [if_pos e, badG_end36 (fun j hj => h (j + 1) (by simpa using hj)), List.length_cons]
theorem take_ixC {l : List PBC} {k : Nat} (h : k < l.length) : l.take (k + 1) = l.take k ++ [ixC l k] := by
  rw [List.take_add_one, List.getElem?_eq_getElem h]
  simp [ixC, List.getD_eq_getElem?_getD, List.getElem?_eq_getElem h]
theorem KSt.push {w0 W w' : World} {p : GP} {kb g cap : Nat} {vn vs vr vm v : Value} {L : List CQ} {q : CQ} (h : KSt w0 p kb vn vs vr vm v L W) (hr : RowP w0 (.slice (some ⟨g, 0, none⟩) (L.length + 1) cap) (L ++ [q]) w') (hg : W.grownBy w' v.ownBlock) (hb : Below w0.heap.size w0 w') :
    KSt w0 p kb vn vs vr vm (.slice (some ⟨g, 0, none⟩) (L.length + 1) cap) (L ++ [q]) (w'.setCell ⟨kb, 5, none⟩ (.slice (some ⟨g, 0, none⟩) (L.length + 1) cap)) := by
  have hbx := h.box.same (hg.block kb h.box.lt fun e => h.row.far h.box (by decide) e.symm)
  exact ⟨(hbx.set 5 _), h.prog, hr.store hbx (by decide) (by decide) _ _, hb.setCell (p := ⟨kb, 5, none⟩) h.base _, h.base⟩
def BeginOut (w : World) (p : GP) (pf : PF) (e : Ending) (w' : World) : Prop := Below w.heap.size w w' ∧
  (((beginP p pf).2.2 ≠ 0 ∧ e = .returned (.tuple #[.pointer none, .int .i64 (beginP p pf).2.1, .int .i64 (beginP p pf).2.2])) ∨
   ((beginP p pf).2.2 = 0 ∧ ∃ kb, e = .returned (.tuple #[.pointer (some ⟨kb, 0, none⟩), .int .i64 0, .int .i64 0]) ∧ KS w p kb (beginP p pf).1 w'))
def BgR (w : World) (p : GP) (gv : List PBC) (kb : Nat) (i : Value) (wx : World) : Prop :=
  ∃ k : Nat, k ≤ gv.length ∧ i = .int .i64 (k : Int) ∧ (∀ j, j < k → fitsB p (ixC gv j) = true) ∧ KS w p kb (compL p ++ gv.take k) wx
set_option maxHeartbeats 8000000 in
set_option maxRecDepth 100000 in
theorem begin_any (vp vf : Value) (p : GP) (pf : PF) (w : World) (h : ProgIs w vp p) (hf : PFIs w vf pf) (hcl : (compL p).length ≤ 600000) :
    Calls Tryz.prog 40 #[vp, vf] w (BeginOut w p pf) := by
  have h0 := h
  obtain ⟨vn, vs, vr, vm, rfl, hPS⟩ := h
  obtain ⟨vg, vt, rfl, hg, ht⟩ := hf
  obtain ⟨a1, c1, rfl, -, hl1, -, hcell⟩ := hg.form
  obtain ⟨a2, c2, rfl, -, hl2, -, -⟩ := ht.form
  have hal := bal (bal (Below.refl w.heap.size w) (.cells #[.int .i64 p.n, vn, vs, vr, vm] 33)) (.cells #[.slice a1 pf.given.length c1, .slice a2 pf.steps.length c2] 36)
  have HX : Hid (Blk ((w.alloc (.cells #[.int .i64 p.n, vn, vs, vr, vm] 33)).alloc (.cells #[.slice a1 pf.given.length c1, .slice a2 pf.steps.length c2] 36)) w.heap.size [.int .i64 p.n, vn, vs, vr, vm] 33) := Lib.hid (by repeat first | (refine Blk.newAt _ _ _ ?_; first | rfl | (simp only [World.size_alloc]; done) | (simp only [World.size_alloc]; omega)) | refine Blk.alloc ?_ _)
  have HY : Hid (Blk ((w.alloc (.cells #[.int .i64 p.n, vn, vs, vr, vm] 33)).alloc (.cells #[.slice a1 pf.given.length c1, .slice a2 pf.steps.length c2] 36)) (w.heap.size + 1) [.slice a1 pf.given.length c1, .slice a2 pf.steps.length c2] 36) := Lib.hid (by repeat first | (refine Blk.newAt _ _ _ ?_; first | rfl | (simp only [World.size_alloc]; done) | (simp only [World.size_alloc]; omega)) | refine Blk.alloc ?_ _)
  have HP := Lib.hid h0
  have HB := Lib.hid hal
  have HC := Lib.hid hcell
  clear h0 hPS hg ht hcell hal
  go_enter Tryz.func40, Tryz.ntmps40
  go_upto_region 1 with fail
  generalize (w.alloc (.cells #[.int .i64 p.n, vn, vs, vr, vm] 33)).alloc (.cells #[.slice a1 pf.given.length c1, .slice a2 pf.steps.length c2] 36) = W0 at *
  have kx := HX.out.cell
  by_cases hv : validE p = 0
  · have hve : (validE p != 0) = false := by simp [hv]
    have HV := Lib.hid hv
    have HBE : Hid (beginP p pf = if 65536 < pf.given.length ∨ 65536 < pf.steps.length then ([], 0, 5) else if badG p pf.given < pf.given.length then ([], (badG p pf.given : Int), 360) else (compL p ++ pf.given, 0, 0)) := Lib.hid (by unfold beginP; rw [if_neg (by simp [hv])])
    clear hv
    go_upto_region 3 with (go_at_call 39; (with_reducible refine (valid_any _ p _ (HP.out.below HB.out)).mono ?_); rintro e w1 ⟨rfl, hb1⟩; have HX1 := Lib.hid (HX.out.below hb1); have HY1 := Lib.hid (HY.out.below hb1); have HB1 := Lib.hid (bon HB.out hb1); clear hb1)
    clear kx hve
    have kx := HX1.out.cell
    have ky := HY1.out.cell
    by_cases hmany : 65536 < pf.given.length ∨ 65536 < pf.steps.length
    · have HF : Hid (beginP p pf = ([], 0, 5)) := Lib.hid (by rw [HBE.out, if_pos hmany])
      by_cases hg1 : (65536 : Int) < pf.given.length
      · clear hmany
        go_wp2
        refine bodyPost_ret (v := .tuple #[.pointer none, .int .i64 0, .int .i64 5]) (by simp [results, Tryz.f40, go_sem]) rfl ?_
        exact ⟨HB1.out, .inl ⟨by rw [HF.out]; dsimp only; decide, by rw [HF.out]⟩⟩
      · have hg2 : (65536 : Int) < pf.steps.length := by omega
        clear hmany
        go_wp2
        refine bodyPost_ret (v := .tuple #[.pointer none, .int .i64 0, .int .i64 5]) (by simp [results, Tryz.f40, go_sem]) rfl ?_
        exact ⟨HB1.out, .inl ⟨by rw [HF.out]; dsimp only; decide, by rw [HF.out]⟩⟩
    · have hg1 : ¬ (65536 : Int) < pf.given.length := by omega
      have hg2 : ¬ (65536 : Int) < pf.steps.length := by omega
      have hgl : pf.given.length ≤ 65536 := by omega
      have HBF : Hid (beginP p pf = if badG p pf.given < pf.given.length then ([], (badG p pf.given : Int), 360) else (compL p ++ pf.given, 0, 0)) := Lib.hid (by rw [HBE.out, if_neg hmany])
      clear hmany HBE
      go_upto_region 7 with (go_at_call 73; (with_reducible refine (compl_own _ p _ (HP.out.below HB1.out)).mono ?_); rintro e w2 ⟨vo, rfl, hco, hb2⟩; rw [if_pos HV.out] at hco; obtain ⟨L, hmi, hL, -⟩ := hco; have hrow : RowP w vo L w2 := hmi.rowP HB1.out.size; obtain ⟨ak, ck, rfl⟩ := hrow.slen; have HRO := Lib.hid hrow; have HLC := Lib.hid hL; have HX2 := Lib.hid (HX1.out.below hb2); have HY2 := Lib.hid (HY1.out.below hb2); have HB2 := Lib.hid (bon HB1.out hb2); have HZ1 : Hid (w.heap.size ≤ w1.heap.size) := Lib.hid HB1.out.size; clear hb2 hmi hrow hL; have kx2 := HX2.out.cell; have ky2 := HY2.out.cell; have hv0 : (if validE p = 0 then (0 : Int) else 2) = 0 := if_pos HV.out; rw [hv0]; clear hv0)
      have hal := bal (Below.refl w2.heap.size w2) (.cells #[.int .i64 p.n, vn, vs, vr, vm, .slice ak L.length ck] 86)
      have HK0 : Hid (KS w p w2.heap.size (compL p) (w2.alloc (.cells #[.int .i64 p.n, vn, vs, vr, vm, .slice ak L.length ck] 86))) := Lib.hid ⟨vn, vs, vr, vm, _, L, ⟨Blk.new _ _ _, HP.out, HRO.out.below hal, bon HB2.out hal, HB2.out.size⟩, HLC.out⟩
      have HY3 := Lib.hid (HY2.out.below hal)
      generalize w2.alloc (.cells #[.int .i64 p.n, vn, vs, vr, vm, .slice ak L.length ck] 86) = w3 at *
      have ky3 := HY3.out.cell
      generalize w2.heap.size = kb at *
      clear hal kx ky kx2 ky2
      go_wp2
      go_loopw [37] (fun i wx => BgR w p pf.given kb i wx) (fun i _ => pf.given.length - (intOf i).toNat)
      case atStart => exact ⟨0, Nat.zero_le _, rfl, fun j hj => absurd hj (Nat.not_lt_zero _), by rw [List.take_zero, List.append_nil]; exact HK0.out⟩
      case round =>
        obtain ⟨k, hk, rfl, hall, hks⟩ := hrel
        have HA := Lib.hid hall
        obtain ⟨vn1, vs1, vr1, vm1, v1, L1, hst, hL1⟩ := hks
        obtain ⟨ak1, ck1, rfl⟩ := hst.row.slen
        have HS := Lib.hid hst
        have HL1 := Lib.hid hL1
        have HLN : Hid (L1.length ≤ 700000) := Lib.hid (by
          have : L1.length = (compL p ++ pf.given.take k).length := by rw [← hL1]; simp
          rw [List.length_append, List.length_take] at this
          omega)
        have hbw := hst.below
        clear hall hst hL1 ky3 HK0
        by_cases hlt : k < pf.given.length
        · obtain ⟨b, off, rfl, hbl, hc⟩ := HC.out (by omega)
          obtain ⟨vl, vk, ⟨k0, k1, k2⟩, hsl⟩ := hc k hlt
          obtain ⟨c, hcc⟩ : ∃ c, ixC pf.given k = c := ⟨_, rfl⟩
          rw [hcc] at k2 hsl
          obtain ⟨al, cl, rfl, -⟩ := hsl.lits.form
          obtain ⟨ax, cx, rfl, -⟩ := hsl.coefs.form
          have kk0 := (bcell hbw b _ hbl).trans k0
          have kk1 := (bcell hbw b _ hbl).trans k1
          have kk2 := (bcell hbw b _ hbl).trans k2
          have hal := bal (Below.refl wr.heap.size wr) (.cells #[.slice al c.lits.length cl, .slice ax c.coefs.length cx, .int .i64 c.bound] 25)
          have HSA := Lib.hid (HS.out.on hal)
          have HSL := Lib.hid hsl
          have HCC := Lib.hid hcc
          have HXC := Lib.hid (Blk.new wr [.slice al c.lits.length cl, .slice ax c.coefs.length cx, .int .i64 c.bound] 25)
          have HPI : Hid (PBIs (wr.alloc (.cells #[.slice al c.lits.length cl, .slice ax c.coefs.length cx, .int .i64 c.bound] 25)) (.agg #[.slice al c.lits.length cl, .slice ax c.coefs.length cx, .int .i64 c.bound]) c) := Lib.hid ((hsl.is.below hbw).below hal)
          clear hc k0 k1 k2 hsl hcc hbw
          go_upto_region 10 with fail
          clear kk0 kk1 kk2
          generalize wr.alloc (.cells #[.slice al c.lits.length cl, .slice ax c.coefs.length cx, .int .i64 c.bound] 25) = wq at *
          have kc := HXC.out.cell
          cases hfc : fitsB p c with
          | false =>
            have HFC := Lib.hid hfc
            have HF : Hid (beginP p pf = ([], (k : Int), 360)) := Lib.hid (by
              have e := badG_at HA.out hlt (by rw [HCC.out]; exact hfc)
              rw [HBF.out, e, if_pos hlt])
            clear hfc
            go_wp2_with (go_at_call 74; (with_reducible refine (kfits_any HSA.out HV.out _ c HPI.out).mono ?_); rintro e w7 ⟨e7, hb7⟩; rw [HFC.out] at e7; subst e7; have HB7 := Lib.hid (bon HSA.out.below hb7); clear hb7)
            refine bodyPost_ret (v := .tuple #[.pointer none, .int .i64 k, .int .i64 360]) (by simp [results, Tryz.f40, go_sem]) rfl ?_
            exact ⟨HB7.out, .inl ⟨by rw [HF.out]; dsimp only; decide, by rw [HF.out]⟩⟩
          | true =>
            have HFC := Lib.hid hfc
            clear hfc
            go_upto_region 12 with (go_at_call 74; (with_reducible refine (kfits_any HSA.out HV.out _ c HPI.out).mono ?_); rintro e w7 ⟨e7, hb7⟩; rw [HFC.out] at e7; subst e7; have HS7 := Lib.hid (HSA.out.on hb7); have HX7 := Lib.hid (HXC.out.below hb7); clear hb7)
            have zk7 := HS7.out.box.lt
            have zx7 := HX7.out.lt
            have ex1 : ∀ e : Ext w7, ∀ o, e.world.cell? ⟨kb, o, none⟩ = _ := fun e o => (bcell e.below _ o zk7).trans (HS7.out.box.cell o)
            have ex2 : ∀ e : Ext w7, ∀ o, e.world.cell? ⟨wr.heap.size, o, none⟩ = _ := fun e o => (bcell e.below _ o zx7).trans (HX7.out.cell o)
            clear kc
            refine wp_region_tail' 7 (fun _ => True) (puΦ 6 (.slice al c.lits.length cl) (.slice ax c.coefs.length cx) (.int .i64 c.bound)) (fun i => i == 6) (by kernel_rfl) (by kernel_rfl) (by kernel_rfl) (fun _ _ => trivial) (puΦ_later _ _ _ _) ?_
            simp only [List.take_succ_cons, List.take_zero, List.drop_succ_cons, List.drop_zero]
            iterate 1 (refine walkP_late (by kernel_rfl) rfl rfl rfl (fun K hK => ?_); go_big_quiet_op; refine hK _ ?_; clear hK K)
            iterate 5 (refine walkP_head (by kernel_rfl) rfl rfl rfl (fun K hK => ?_); go_big_quiet_op; refine hK _ ?_; clear hK K)
            refine walkP_mem rfl rfl (fun wa hba hFa => ?_) (fun v9 lo9 hi9 l9 g9 h9 => ?_)
            · go_simp
              exact ⟨bal (Below.refl _ _) _, rfl, rfl, by simp, Blk.new _ _ _⟩
            obtain ⟨_, -, rfl, -, -⟩ := h9
            simp only [Act.put, List.setIfInBounds_toArray, List.set_cons_succ, List.set_cons_zero]
            intro wx hbx hF hI hP
            obtain ⟨-, -, -, F9⟩ := hF _ (.head _)
            have HF9 := Lib.hid F9
            have HSX := Lib.hid (HS7.out.on hbx)
            clear F9 hF hI hP hbx ex1 ex2
            refine ⟨rfl, rfl, ?_⟩
            refine wp_appendRP _ _ rfl w _ L1 (c, .slice al c.lits.length cl, .slice ax c.coefs.length cx) rfl HSX.out.row lo9 1 rfl HF9.out ⟨.old HSL.out.lits, .old HSL.out.coefs, HSL.out.bound⟩ (by have := HLN.out; omega) HSX.out.below ?_
            intro g2 cap w8 hr8 hg8 hb8
            have hst := HSX.out.push hr8 hg8 hb8
            have hsb := (HSX.out.box.same (hg8.block kb HSX.out.box.lt fun e => HSX.out.row.far HSX.out.box (by decide) e.symm))
            have kf := hsb.free
            have kk := hsb.cell
            have HST := Lib.hid hst
            clear hst hr8 hg8 hb8 hsb
            refine ⟨trivial, rfl, rfl, ?_⟩
            go_simp
            refine ⟨rfl, rfl, ?_⟩
            go_simp
            refine ⟨rfl, rfl, ?_⟩
            go_simp
            simp only [tailW]
            clear kf kk
            go_wp2_with fail
            first
              | (go_roundw
                 case rel => (exact ⟨k + 1, hlt, by go_num, lt_succ_all HA.out (by rw [HCC.out]; exact HFC.out), ⟨_, _, _, _, _, _, HST.out, by rw [List.map_append, HL1.out, take_ixC hlt, HCC.out, List.append_assoc]; rfl⟩⟩)
                 case measure => (simp [intOf]; omega))
              | (refine ⟨?_, ?_⟩
                 · (exact ⟨k + 1, hlt, by go_num, lt_succ_all HA.out (by rw [HCC.out]; exact HFC.out), ⟨_, _, _, _, _, _, HST.out, by rw [List.map_append, HL1.out, take_ixC hlt, HCC.out, List.append_assoc]; rfl⟩⟩)
                 · (simp [intOf]; omega))
        · obtain rfl : k = pf.given.length := by omega
          have HF : Hid (beginP p pf = (compL p ++ pf.given, 0, 0)) := Lib.hid (by
            rw [HBF.out, badG_end36 HA.out, if_neg (Nat.lt_irrefl _)])
          have HKS : Hid (KS w p kb (compL p ++ pf.given) wr) := Lib.hid ⟨_, _, _, _, _, _, HS.out, by rw [HL1.out, List.take_length]⟩
          have HBW := Lib.hid hbw
          clear hbw
          go_wp2
          refine bodyPost_ret (v := .tuple #[.pointer (some ⟨kb, 0, none⟩), .int .i64 0, .int .i64 0]) (by simp [results, Tryz.f40, go_sem]) rfl ?_
          exact ⟨HBW.out, .inr ⟨by rw [HF.out], kb, rfl, by rw [HF.out]; exact HKS.out⟩⟩
  · have hve : (validE p != 0) = true := by simp [hv]
    have HF : Hid (beginP p pf = ([], 0, 2)) := Lib.hid (by unfold beginP; rw [if_pos hv])
    clear hv
    go_wp2_with (go_at_call 39; (with_reducible refine (valid_any _ p _ (HP.out.below HB.out)).mono ?_); rintro e w1 ⟨rfl, hb1⟩; have HB1 := Lib.hid (bon HB.out hb1); clear hb1)
    refine bodyPost_ret (v := .tuple #[.pointer none, .int .i64 0, .int .i64 2]) (by simp [results, Tryz.f40, go_sem]) rfl ?_
    exact ⟨HB1.out, .inl ⟨by rw [HF.out]; dsimp only; decide, by rw [HF.out]⟩⟩
end Go.Proofs.YteblddnoegbalaaGreat
namespace Go.Proofs.YteblddnoegbalaaGreat
open Go.RowKit
attribute [local go_sem] memUpon
set_option maxHeartbeats 1000000 in
theorem cfalse_any (v : Value) (c : PBC) (w : World) (h : PBIs w v c) :
    Calls Tryz.prog 42 #[v] w fun e w' => e = .returned (.bool (isFalse c)) ∧ Below w.heap.size w w' := by
  obtain ⟨vl, vk, rfl, hL, hK, hbd⟩ := h
  obtain ⟨a1, c1, rfl, -, hl1, -⟩ := id hL.form
  obtain ⟨a2, c2, rfl, -⟩ := id hK.form
  have HB := Lib.hid (bal (Below.refl w.heap.size w) (.cells #[.slice a1 c.lits.length c1, .slice a2 c.coefs.length c2, .int .i64 c.bound] 25))
  have HX := Lib.hid (Blk.new w [.slice a1 c.lits.length c1, .slice a2 c.coefs.length c2, .int .i64 c.bound] 25)
  clear hL hK hbd
  go_enter Tryz.func42, Tryz.ntmps42
  go_upto_region 1 with fail
  generalize w.alloc (.cells #[.slice a1 c.lits.length c1, .slice a2 c.coefs.length c2, .int .i64 c.bound] 25) = W0 at *
  have kx := HX.out.cell
  by_cases hz : c.lits.length = 0
  · have HF : Hid (isFalse c = decide (c.bound = 1)) := Lib.hid (by unfold isFalse; rw [decide_eq_true hz, Bool.true_and])
    rw [hz] at kx
    by_cases hb1 : c.bound = 1
    · have HF2 : Hid (isFalse c = true) := Lib.hid (by rw [HF.out, decide_eq_true hb1])
      rw [hb1] at kx
      clear hz hb1
      go_wp2
      go_ret
      exact ⟨ret_bool HF2.out.symm, HB.out⟩
    · have HF2 : Hid (isFalse c = false) := Lib.hid (by rw [HF.out, decide_eq_false hb1])
      have hbe : (c.bound == 1) = false := by simpa using hb1
      clear hz hb1
      go_wp2
      go_ret
      exact ⟨ret_bool HF2.out.symm, HB.out⟩
  · have HF2 : Hid (isFalse c = false) := Lib.hid (by unfold isFalse; rw [decide_eq_false hz, Bool.false_and])
    have hzI : ((c.lits.length : Int) == 0) = false := by
      have : (c.lits.length : Int) ≠ 0 := by omega
      simpa using this
    clear hz
    go_wp2
    go_ret
    exact ⟨ret_bool HF2.out.symm, HB.out⟩
set_option maxHeartbeats 1000000 in
theorem idxP_cfal (v : Value) (l : List PBC) (w : World) (h : PBsIs w v l) (g : Nat → Bool) 
    (hg : ∀ w', Below w.heap.size w w' → ∀ j, j < l.length → ∀ u, PBIs w' u (ixC l j) → Calls Tryz.prog 42 #[u] w' fun e w'' => e = .returned (.bool (g j)) ∧ Below w'.heap.size w' w'') :
    Calls Tryz.prog 59 #[v, .func (.func 42) #[] #[]] w fun e w' => ∃ r, e = .returned (.int .i64 r) ∧ IxP l.length g r ∧ Below w.heap.size w w' := by
  obtain ⟨a1, c1, rfl, -, hl1, -, hcell⟩ := h.form
  have HG := Lib.hid hg
  clear h hg
  go_enter Tryz.func59, Tryz.ntmps59
  go_wp2
  go_loopw [8] (fun i wx => IxR l.length g w i wx) (fun i _ => l.length - (intOf i).toNat)
  case atStart => exact ⟨0, by omega, rfl, fun j hj => absurd hj (Nat.not_lt_zero _), Below.refl _ _⟩
  case round =>
    obtain ⟨k, hk, rfl, hall, hb⟩ := hrel
    have HA := Lib.hid hall
    clear hall
    by_cases hlt : k < l.length
    · obtain ⟨b, off, rfl, hbl, hc⟩ := hcell (by omega)
      obtain ⟨vl, vk, ⟨k0, k1, k2⟩, hsl⟩ := hc k hlt
      have hk0 := (bcell hb _ _ hbl).trans k0
      have hk1 := (bcell hb _ _ hbl).trans k1
      have hk2 := (bcell hb _ _ hbl).trans k2
      have HRU : Hid (PBIs wr (.agg #[vl, vk, .int .i64 (ixC l k).bound]) (ixC l k)) := Lib.hid (hsl.below hb).is
      clear hc hcell k0 k1 k2 hsl
      cases g1 : g k with
      | true =>
        have HK : Hid (_ = true) := Lib.hid g1
        have HC := Lib.hid (HG.out _ hb k hlt _ HRU.out)
        rw [g1] at HC
        clear g1
        go_wp2_with (go_at_call 42; refine (HC.out).mono ?_; rintro e w1 ⟨rfl, hb1⟩)
        go_ret
        exact ⟨_, rfl, .inr ⟨k, hlt, rfl, HK.out, HA.out⟩, bon hb hb1⟩
      | false =>
        have HN := Lib.hid (lt_succ_all HA.out g1)
        have HC := Lib.hid (HG.out _ hb k hlt _ HRU.out)
        rw [g1] at HC
        clear g1
        go_wp2_with (go_at_call 42; refine (HC.out).mono ?_; rintro e w1 ⟨rfl, hb1⟩)
        first
          | (go_roundw
             case rel => (exact ⟨k + 1, by omega, by go_num, HN.out, bon hb hb1⟩)
             case measure => (simp [intOf]; omega))
          | (refine ⟨?_, ?_⟩
             · (exact ⟨k + 1, by omega, by go_num, HN.out, bon hb hb1⟩)
             · (simp [intOf]; omega))
    · have HN : Hid (∀ j, j < l.length → g j = false) := Lib.hid (fun j hj => HA.out j (by omega))
      go_wp2
      go_ret
      exact ⟨_, rfl, .inl ⟨rfl, HN.out⟩, hb⟩
set_option maxHeartbeats 1000000 in
theorem ctnP_cfal (v : Value) (l : List PBC) (w : World) (h : PBsIs w v l) (g : Nat → Bool) 
    (hg : ∀ w', Below w.heap.size w w' → ∀ j, j < l.length → ∀ u, PBIs w' u (ixC l j) → Calls Tryz.prog 42 #[u] w' fun e w'' => e = .returned (.bool (g j)) ∧ Below w'.heap.size w' w'') :
    Calls Tryz.prog 32 #[v, .func (.func 42) #[] #[]] w fun e w' => e = .returned (.bool (anyR l.length g)) ∧ Below w.heap.size w w' := by
  have HI := Lib.hid (idxP_cfal v l w h g  hg)
  obtain ⟨a1, c1, rfl, -⟩ := h.form
  clear h hg
  go_enter Tryz.func32, Tryz.ntmps32
  go_wp2_with (go_at_call 59; refine (HI.out).mono ?_; rintro e w1 ⟨r, rfl, hr, hb1⟩; have HR := Lib.hid hr; clear hr)
  go_ret
  exact ⟨ret_bool HR.out.any, hb1⟩
theorem anyR_any {db : List PBC} {f : PBC → Bool} : anyR db.length (fun i => f (ixC db i)) = db.any f := by
  cases h : db.any f with
  | true =>
    obtain ⟨c, hc, hf⟩ := List.any_eq_true.1 h
    obtain ⟨j, hj, rfl⟩ := mem_ixC hc
    exact anyR_true j hj hf
  | false =>
    refine anyR_false fun j hj => ?_
    cases e : f (ixC db j) with
    | false => rfl
    | true => rw [List.any_eq_true.2 ⟨_, ixC_mem hj, e⟩] at h; cases h
theorem ctnP_fal {v : Value} {db : List PBC} {b : Bool} {w : World} (hb : db.any isFalse = b) (h : PBsIs w v db) :
    Calls Tryz.prog 32 #[v, .func (.func 42) #[] #[]] w fun e w' => e = .returned (.bool b) ∧ Below w.heap.size w w' := by
  have := ctnP_cfal v db w h (fun i => isFalse (ixC db i)) (fun w' hb j hj u hu => cfalse_any u _ w' hu)
  rwa [anyR_any, hb] at this
theorem drop_ixS {l : List ST} {k : Nat} (h : k < l.length) : l.drop k = ixS36 l k :: l.drop (k + 1) := by
  rw [List.drop_eq_getElem_cons h]
  congr 1
  simp [ixS36, List.getD_eq_getElem?_getD, List.getElem?_eq_getElem h]
theorem take_ixS {l : List ST} {k : Nat} (h : k < l.length) : (l.take (k + 1)).map (·.c) = (l.take k).map (·.c) ++ [(ixS36 l k).c] := by
  rw [List.take_add_one, List.getElem?_eq_getElem h, List.map_append]
  congr 1
  simp [ixS36, List.getD_eq_getElem?_getD, List.getElem?_eq_getElem h]
def CkR (w : World) (p : GP) (db : List PBC) (st : List ST) (kb : Nat) (i : Value) (wx : World) : Prop :=
  ∃ k : Nat, k ≤ st.length ∧ i = .int .i64 (k : Int) ∧ KS w p kb (db ++ (st.take k).map (·.c)) wx ∧ goodS p db st = k + goodS p (db ++ (st.take k).map (·.c)) (st.drop k)
set_option maxHeartbeats 8000000 in
set_option maxRecDepth 100000 in
theorem check36_any (vp vf : Value) (p : GP) (pf : PF) (w : World) (h : ProgIs w vp p) (hf : PFIs w vf pf) (hcl : (compL p).length ≤ 600000) :
    Calls Tryz.prog 17 #[vp, vf] w fun e w' => e = .returned (.tuple #[.int .i64 (checkP p pf).1, .int .i64 (checkP p pf).2]) ∧ Below w.heap.size w w' := by
  have h0 := h
  have hf0 := hf
  obtain ⟨vn, vs, vr, vm, rfl, hPS⟩ := h
  obtain ⟨vg, vt, rfl, hg, ht⟩ := hf
  obtain ⟨a1, c1, rfl, -, hl1, -, -⟩ := hg.form
  obtain ⟨a2, c2, rfl, -, hl2, -, hcell⟩ := ht.form
  have hal := bal (bal (Below.refl w.heap.size w) (.cells #[.int .i64 p.n, vn, vs, vr, vm] 33)) (.cells #[.slice a1 pf.given.length c1, .slice a2 pf.steps.length c2] 36)
  have HX : Hid (Blk ((w.alloc (.cells #[.int .i64 p.n, vn, vs, vr, vm] 33)).alloc (.cells #[.slice a1 pf.given.length c1, .slice a2 pf.steps.length c2] 36)) w.heap.size [.int .i64 p.n, vn, vs, vr, vm] 33) := Lib.hid (by repeat first | (refine Blk.newAt _ _ _ ?_; first | rfl | (simp only [World.size_alloc]; done) | (simp only [World.size_alloc]; omega)) | refine Blk.alloc ?_ _)
  have HY : Hid (Blk ((w.alloc (.cells #[.int .i64 p.n, vn, vs, vr, vm] 33)).alloc (.cells #[.slice a1 pf.given.length c1, .slice a2 pf.steps.length c2] 36)) (w.heap.size + 1) [.slice a1 pf.given.length c1, .slice a2 pf.steps.length c2] 36) := Lib.hid (by repeat first | (refine Blk.newAt _ _ _ ?_; first | rfl | (simp only [World.size_alloc]; done) | (simp only [World.size_alloc]; omega)) | refine Blk.alloc ?_ _)
  have HP := Lib.hid (h0.below hal)
  have HPF := Lib.hid (hf0.below hal)
  have HB := Lib.hid hal
  have HC := Lib.hid hcell
  obtain ⟨⟨db, bi, be⟩, hbg⟩ : ∃ B, beginP p pf = B := ⟨_, rfl⟩
  have HBG := Lib.hid hbg
  clear h0 hf0 hPS hg ht hcell hal hbg
  go_enter Tryz.func17, Tryz.ntmps17
  go_upto_region 1 with fail
  generalize (w.alloc (.cells #[.int .i64 p.n, vn, vs, vr, vm] 33)).alloc (.cells #[.slice a1 pf.given.length c1, .slice a2 pf.steps.length c2] 36) = W0 at *
  have kx := HX.out.cell
  have ky := HY.out.cell
  by_cases hE : be = 0
  · subst hE
    have hbo := begin_ok (p := p) (pf := pf) (by rw [HBG.out])
    have HBO := Lib.hid hbo
    have hst : pf.steps.length ≤ 65536 := hbo.2.2.1
    have hdb : db.length ≤ 700000 := by
      have e := hbo.2.2.2.2
      rw [HBG.out] at e
      simp only [Prod.mk.injEq] at e
      rw [e.1, List.length_append]
      omega
    have HV : Hid (validE p = 0) := Lib.hid hbo.1
    clear hbo
    go_upto_region 5 with (go_at_call 40; (with_reducible refine (begin_any _ _ p pf _ HP.out HPF.out hcl).mono ?_); rintro e w1 ⟨hb1, hor⟩; rw [HBG.out] at hor; obtain ⟨kb, rfl, hks⟩ : ∃ kb, e = .returned (.tuple #[.pointer (some ⟨kb, 0, none⟩), .int .i64 0, .int .i64 0]) ∧ KS W0 p kb db w1 := by {rcases hor with ⟨h, -⟩ | ⟨-, h⟩; (exact absurd rfl h); (exact h)}; have HY1 := Lib.hid (HY.out.below hb1); have ky1 := HY1.out.cell; have HK1 := Lib.hid hks; clear hor hks hb1)
    have HCK : Hid (checkP p pf = if goodS p db pf.steps < pf.steps.length then ((goodS p db pf.steps : Int), 361) else if (db ++ pf.steps.map (·.c)).any isFalse then ((pf.steps.length : Int), 0) else ((pf.steps.length : Int), 362)) := Lib.hid (by unfold checkP; rw [HBG.out, if_neg (by simp)])
    clear kx ky
    go_loopw [25] (fun i wx => CkR W0 p db pf.steps kb i wx) (fun i _ => pf.steps.length - (intOf i).toNat)
    case atStart => exact ⟨0, Nat.zero_le _, rfl, by rw [List.take_zero, List.map_nil, List.append_nil]; exact HK1.out, by simp⟩
    case round =>
      obtain ⟨k, hk, rfl, hks, hgd⟩ := hrel
      have HGD := Lib.hid hgd
      obtain ⟨vn1, vs1, vr1, vm1, v1, L1, hst1, hL1⟩ := hks
      obtain ⟨ak1, ck1, rfl⟩ := hst1.row.slen
      have HS := Lib.hid hst1
      have HL1 := Lib.hid hL1
      have HLN : Hid (L1.length ≤ 770000) := Lib.hid (by
        have : L1.length = (db ++ (pf.steps.take k).map (·.c)).length := by rw [← hL1]; simp
        rw [List.length_append, List.length_map, List.length_take] at this
        omega)
      have hbw := bon HB.out hst1.below
      have hyr := (bcell hst1.below (w.heap.size + 1))
      have kyr : ∀ o, wr.cell? ⟨w.heap.size + 1, o, none⟩ = [Value.slice a1 pf.given.length c1, .slice a2 pf.steps.length c2][o]? := fun o => (hyr o HY.out.lt).trans (HY.out.cell o)
      clear hgd hst1 hL1 hyr ky1 HK1
      by_cases hlt : k < pf.steps.length
      · obtain ⟨b, off, rfl, hbl, hc⟩ := HC.out (by omega)
        obtain ⟨vl, vk, vs0, vo, ⟨k0, k1, k2, k3, k4, k5⟩, hsl⟩ := hc k hlt
        obtain ⟨s, hss⟩ : ∃ s, ixS36 pf.steps k = s := ⟨_, rfl⟩
        rw [hss] at k0 k3 hsl
        obtain ⟨al, cl, rfl, -⟩ := hsl.pb.lits.form
        obtain ⟨ax, cx, rfl, -⟩ := hsl.pb.coefs.form
        obtain ⟨as4, cs, rfl, -⟩ := hsl.set.form
        obtain ⟨ao, co, rfl, -⟩ := hsl.ops.form
        have kk0 := (bcell hbw b _ hbl).trans k0
        have kk1 := (bcell hbw b _ hbl).trans k1
        have kk2 := (bcell hbw b _ hbl).trans k2
        have kk3 := (bcell hbw b _ hbl).trans k3
        have kk4 := (bcell hbw b _ hbl).trans k4
        have kk5 := (bcell hbw b _ hbl).trans k5
        have hal := bal (Below.refl wr.heap.size wr) (.cells #[.int .u8 s.kind, .slice al s.c.lits.length cl, .slice ax s.c.coefs.length cx, .int .i64 s.c.bound, .slice as4 s.set.length cs, .slice ao s.ops.length co] 41)
        have HSA := Lib.hid (HS.out.on hal)
        have HSL : Hid (STSl W0 s _ _ _ _) := Lib.hid (hsl.below HB.out)
        have HSS := Lib.hid hss
        have HXC : Hid (SBx s _ _ _ _ wr.heap.size (wr.alloc (.cells #[.int .u8 s.kind, .slice al s.c.lits.length cl, .slice ax s.c.coefs.length cx, .int .i64 s.c.bound, .slice as4 s.set.length cs, .slice ao s.ops.length co] 41))) := Lib.hid (SBx.new (hsl.below hbw))
        have HZR : Hid (Below w.heap.size w wr) := Lib.hid hbw
        clear hc k0 k1 k2 k3 k4 k5 hsl hss hbw kyr
        go_upto_region 7 with fail
        clear kk0 kk1 kk2 kk3 kk4 kk5
        generalize wr.alloc (.cells #[.int .u8 s.kind, .slice al s.c.lits.length cl, .slice ax s.c.coefs.length cx, .int .i64 s.c.bound, .slice as4 s.set.length cs, .slice ao s.ops.length co] 41) = wq at *
        have kc := HXC.out.box.cell
        have hkind := HSL.out.kind
        have HKI := Lib.hid hkind
        obtain ⟨B, hB⟩ : ∃ B, stepB p (L1.map (·.1)) s = B := ⟨_, rfl⟩
        have HBB := Lib.hid hB
        have HGS : Hid (goodS p db pf.steps = k + if B then goodS p (db ++ (pf.steps.take (k + 1)).map (·.c)) (pf.steps.drop (k + 1)) + 1 else 0) := Lib.hid (by
          have e : goodS p (db ++ (pf.steps.take k).map (·.c)) (s :: pf.steps.drop (k + 1)) = if stepB p (db ++ (pf.steps.take k).map (·.c)) s then goodS p (db ++ (pf.steps.take k).map (·.c) ++ [s.c]) (pf.steps.drop (k + 1)) + 1 else 0 := rfl
          rw [HGD.out, drop_ixS hlt, HSS.out, e, take_ixS hlt, HSS.out, ← HL1.out, hB, HL1.out, List.append_assoc])
        clear hkind hB
        cases B with
        | false =>
          have HF : Hid (checkP p pf = ((k : Int), 361)) := Lib.hid (by
            have e := HGS.out
            simp only [Bool.false_eq_true, if_false, Nat.add_zero] at e
            rw [HCK.out, e, if_pos hlt])
          go_wp2_with (go_at_call 41; (with_reducible refine (kstep_any HSA.out HV.out (by have := HLN.out; omega) _ s (HXC.out.st HKI.out)).mono ?_); rintro e w7 ⟨e7, hb7⟩; rw [HBB.out] at e7; subst e7; have HB7 := Lib.hid (bon HSA.out.below hb7); clear hb7)
          refine bodyPost_ret (v := .tuple #[.int .i64 k, .int .i64 361]) (by simp [results, Tryz.f17, go_sem]) rfl ?_
          exact ⟨by rw [HF.out], HB.out.trans (HB7.out.mono HB.out.size)⟩
        | true =>
          go_upto_region 9 with (go_at_call 41; (with_reducible refine (kstep_any HSA.out HV.out (by have := HLN.out; omega) _ s (HXC.out.st HKI.out)).mono ?_); rintro e w7 ⟨e7, hb7⟩; rw [HBB.out] at e7; subst e7; have HS7 := Lib.hid (HSA.out.on hb7); have HX7 := Lib.hid (HXC.out.on hb7); clear hb7)
          have zk7 := HS7.out.box.lt
          have zx7 := HX7.out.box.lt
          have ex1 : ∀ e : Ext w7, ∀ o, e.world.cell? ⟨kb, o, none⟩ = _ := fun e o => (bcell e.below _ o zk7).trans (HS7.out.box.cell o)
          have ex2 : ∀ e : Ext w7, ∀ o, e.world.cell? ⟨wr.heap.size, o, none⟩ = _ := fun e o => (bcell e.below _ o zx7).trans (HX7.out.box.cell o)
          clear kc
          refine wp_region_tail' 8 (fun _ => True) (puΦ 7 (.slice al s.c.lits.length cl) (.slice ax s.c.coefs.length cx) (.int .i64 s.c.bound)) (fun i => i == 7) (by kernel_rfl) (by kernel_rfl) (by kernel_rfl) (fun _ _ => trivial) (puΦ_later _ _ _ _) ?_
          simp only [List.take_succ_cons, List.take_zero, List.drop_succ_cons, List.drop_zero]
          iterate 1 (refine walkP_late (by kernel_rfl) rfl rfl rfl (fun K hK => ?_); go_big_quiet_op; refine hK _ ?_; clear hK K)
          iterate 6 (refine walkP_head (by kernel_rfl) rfl rfl rfl (fun K hK => ?_); go_big_quiet_op; refine hK _ ?_; clear hK K)
          refine walkP_mem rfl rfl (fun wa hba hFa => ?_) (fun v9 lo9 hi9 l9 g9 h9 => ?_)
          · go_simp
            exact ⟨bal (Below.refl _ _) _, rfl, rfl, by simp, Blk.new _ _ _⟩
          obtain ⟨_, -, rfl, -, -⟩ := h9
          simp only [Act.put, List.setIfInBounds_toArray, List.set_cons_succ, List.set_cons_zero]
          intro wx hbx hF hI hP
          obtain ⟨-, -, -, F9⟩ := hF _ (.head _)
          have HF9 := Lib.hid F9
          have HSX := Lib.hid (HS7.out.on hbx)
          clear F9 hF hI hP hbx ex1 ex2
          refine ⟨rfl, rfl, ?_⟩
          refine wp_appendRP _ _ rfl W0 _ L1 (s.c, .slice al s.c.lits.length cl, .slice ax s.c.coefs.length cx) rfl HSX.out.row lo9 1 rfl HF9.out ⟨.old HSL.out.pb.lits, .old HSL.out.pb.coefs, HSL.out.pb.bound⟩ (by have := HLN.out; omega) HSX.out.below ?_
          intro g2 cap w8 hr8 hg8 hb8
          have hst := HSX.out.push hr8 hg8 hb8
          have hsb := (HSX.out.box.same (hg8.block kb HSX.out.box.lt fun e => HSX.out.row.far HSX.out.box (by decide) e.symm))
          have kf := hsb.free
          have kk := hsb.cell
          have HST := Lib.hid hst
          clear hst hr8 hg8 hb8 hsb
          refine ⟨trivial, rfl, rfl, ?_⟩
          go_simp
          refine ⟨rfl, rfl, ?_⟩
          go_simp
          refine ⟨rfl, rfl, ?_⟩
          go_simp
          simp only [tailW]
          clear kf kk
          go_wp2_with fail
          first
            | (go_roundw
               case rel => (exact ⟨k + 1, hlt, by go_num, ⟨_, _, _, _, _, _, HST.out, by rw [List.map_append, HL1.out, take_ixS hlt, HSS.out, List.append_assoc]; rfl⟩, by (have e := HGS.out; simp only [if_true] at e; omega)⟩)
               case measure => (simp [intOf]; omega))
            | (refine ⟨?_, ?_⟩
               · (exact ⟨k + 1, hlt, by go_num, ⟨_, _, _, _, _, _, HST.out, by rw [List.map_append, HL1.out, take_ixS hlt, HSS.out, List.append_assoc]; rfl⟩, by (have e := HGS.out; simp only [if_true] at e; omega)⟩)
               · (simp [intOf]; omega))
      · obtain rfl : k = pf.steps.length := by omega
        obtain ⟨B, hB⟩ : ∃ B, (db ++ pf.steps.map (·.c)).any isFalse = B := ⟨_, rfl⟩
        have HBB := Lib.hid hB
        have HFIN : Hid (L1.map (·.1) = db ++ pf.steps.map (·.c)) := Lib.hid (by rw [HL1.out, List.take_length])
        have HF : Hid (checkP p pf = if B then ((pf.steps.length : Int), 0) else ((pf.steps.length : Int), 362)) := Lib.hid (by
          have e := HGD.out
          rw [List.drop_length] at e
          have e2 : goodS p (db ++ (pf.steps.take pf.steps.length).map (·.c)) [] = 0 := rfl
          rw [e2, Nat.add_zero] at e
          rw [HCK.out, e, if_neg (Nat.lt_irrefl _), hB])
        have kb5 := HS.out.box.cell
        have HPB : Hid (PBsIs wr (.slice ak1 L1.length ck1) (db ++ pf.steps.map (·.c))) := Lib.hid (HS.out.row.pbs HS.out.below HFIN.out (by have := HLN.out; omega))
        have HBW := Lib.hid hbw
        clear hbw hB
        cases B with
        | false =>
          go_wp2_with (go_at_call 32; (with_reducible refine (ctnP_fal HBB.out HPB.out).mono ?_); rintro e w7 ⟨rfl, hb7⟩; have HB7 := Lib.hid (bon HBW.out hb7); have ky7 := fun o => (bcell hb7 _ o (Nat.lt_of_lt_of_le HY.out.lt HS.out.below.size)).trans (kyr o); clear hb7 kyr)
          refine bodyPost_ret (v := .tuple #[.int .i64 pf.steps.length, .int .i64 362]) (by simp [results, Tryz.f17, go_sem]) rfl ?_
          exact ⟨by rw [HF.out]; rfl, HB7.out⟩
        | true =>
          go_wp2_with (go_at_call 32; (with_reducible refine (ctnP_fal HBB.out HPB.out).mono ?_); rintro e w7 ⟨rfl, hb7⟩; have HB7 := Lib.hid (bon HBW.out hb7); have ky7 := fun o => (bcell hb7 _ o (Nat.lt_of_lt_of_le HY.out.lt HS.out.below.size)).trans (kyr o); clear hb7 kyr)
          refine bodyPost_ret (v := .tuple #[.int .i64 pf.steps.length, .int .i64 0]) (by simp [results, Tryz.f17, go_sem]) rfl ?_
          exact ⟨by rw [HF.out]; rfl, HB7.out⟩
  · have hEb : (be != 0) = true := by simp [hE]
    have HF : Hid (checkP p pf = (bi, be)) := Lib.hid (by unfold checkP; rw [HBG.out, if_pos hE])
    go_wp2_with (go_at_call 40; (with_reducible refine (begin_any _ _ p pf _ HP.out HPF.out hcl).mono ?_); rintro e w1 ⟨hb1, hor⟩; rw [HBG.out] at hor; obtain rfl : e = .returned (.tuple #[.pointer none, .int .i64 bi, .int .i64 be]) := by {rcases hor with ⟨-, h⟩ | ⟨h, -⟩; (exact h); (exact absurd h hE)}; have HB1 := Lib.hid (bon HB.out hb1); clear hor hb1)
    refine bodyPost_ret (v := .tuple #[.int .i64 bi, .int .i64 be]) (by simp [results, Tryz.f17, go_sem]) rfl ?_
    exact ⟨by rw [HF.out], HB1.out⟩
end Go.Proofs.YteblddnoegbalaaGreat
namespace Go.Proofs.YteblddnoegbalaaGreat
open Go.RowKit
attribute [local go_sem] memUpon
def OwnOut (B : Nat) (c : PBC) (v : Value) (w : World) : Prop := ∃ a1 c1 a2 c2, v = .agg #[.slice a1 c.lits.length c1, .slice a2 c.coefs.length c2, .int .i64 c.bound] ∧ QRow B w (.slice a1 c.lits.length c1) c.lits ∧ QRow B w (.slice a2 c.coefs.length c2) c.coefs
theorem OwnOut.below {B : Nat} {c : PBC} {v : Value} {w w' : World} (h : OwnOut B c v w) (hb : Below w.heap.size w w') : OwnOut B c v w' := by
  obtain ⟨a1, c1, a2, c2, e, h1, h2⟩ := h
  exact ⟨a1, c1, a2, c2, e, h1.below hb, h2.below hb⟩
end Go.Proofs.YteblddnoegbalaaGreat
namespace Go.Proofs.YteblddnoegbalaaGreat
open Go.RowKit
attribute [local go_sem] memUpon
theorem KSt.elem {w0 W : World} {p : GP} {kb : Nat} {vn vs vr vm v : Value} {L : List CQ} (h : KSt w0 p kb vn vs vr vm v L W) {k : Nat} (hk : k < L.length) : ∃ g cap vl vk, v = .slice (some ⟨g, 0, none⟩) L.length cap ∧ w0.heap.size ≤ g ∧ g < W.heap.size ∧ g ≠ kb ∧
    (∀ o, W.frozen? ⟨g, o, none⟩ = false) ∧ W.cell? ⟨g, k * 3, none⟩ = some vl ∧ W.cell? ⟨g, k * 3 + 1, none⟩ = some vk ∧ W.cell? ⟨g, k * 3 + 2, none⟩ = some (.int .i64 (ixC (L.map (·.1)) k).bound) ∧ PBIs W (.agg #[vl, vk, .int .i64 (ixC (L.map (·.1)) k).bound]) (ixC (L.map (·.1)) k) := by
  have hm : L.getD k default ∈ L := by rw [List.getD_eq_getElem?_getD, List.getElem?_eq_getElem hk]; exact List.getElem_mem hk
  have e1 : ixC (L.map (·.1)) k = (L.getD k default).1 := by simp [ixC, List.getD_eq_getElem?_getD, List.getElem?_eq_getElem hk]
  have hx := (h.row.each _ hm).is h.below
  rcases h.row.row.2 with ⟨-, h0⟩ | ⟨g, cap, cur, rfl, hb, hg, hn, hm', hs, hx'⟩
  · omega
  have hB : Blk W g cur.toList 25 := by unfold Blk; simpa using hg
  have hc : ∀ j, j < 3 → W.cell? ⟨g, k * 3 + j, none⟩ = (cells3 (L.getD k default))[j]? := fun j hj => by
    have h6 := flat3 L k j hk hj
    rw [← hx', List.getElem?_take_of_lt (by omega)] at h6
    rw [hB.cell, h6]
  refine ⟨g, cap, _, _, rfl, hb, hB.lt, fun e => ?_, hB.free, (hc 0 (by omega)).trans rfl, (hc 1 (by omega)).trans rfl, (hc 2 (by omega)).trans (by rw [e1]; rfl), by rw [e1]; exact hx⟩
  have h1 := h.row.far h.box (by decide)
  exact h1 (by rw [e]; rfl)
theorem KSt.set3 {w0 W : World} {p : GP} {kb g n cap k : Nat} {vn vs vr vm : Value} {L : List CQ} (h : KSt w0 p kb vn vs vr vm (.slice (some ⟨g, 0, none⟩) n cap) L W) (hk : k < L.length) {c : PBC} {vl vk : Value} (hq : PBX w0 W (c, vl, vk)) (hg : w0.heap.size ≤ g) (hne : g ≠ kb) :
    KSt w0 p kb vn vs vr vm (.slice (some ⟨g, 0, none⟩) n cap) (L.set k (c, vl, vk)) (((W.setCell ⟨g, k * 3, none⟩ vl).setCell ⟨g, k * 3 + 1, none⟩ vk).setCell ⟨g, k * 3 + 2, none⟩ (.int .i64 c.bound)) :=
  ⟨((h.box.setOther _ _ hne.symm).setOther _ _ hne.symm).setOther _ _ hne.symm, h.prog, h.row.set3 hk hq, ((h.below.setCell (p := ⟨g, k * 3, none⟩) hg vl).setCell (p := ⟨g, k * 3 + 1, none⟩) hg vk).setCell (p := ⟨g, k * 3 + 2, none⟩) hg (.int .i64 c.bound), h.base⟩
end Go.Proofs.YteblddnoegbalaaGreat
namespace Go.Proofs.YteblddnoegbalaaGreat
open Go.RowKit
attribute [local go_sem] memUpon
set_option maxHeartbeats 4000000 in
set_option maxRecDepth 100000 in
theorem claw36_any (v : Value) (l : List Int) (w : World) (h : Ints w v l) :
    Calls Tryz.prog 19 #[v] w fun e w' => ∃ vp, e = .returned vp ∧ PBQ w.heap.size w' vp (clauseP l).1 ∧ Below w.heap.size w w' := by
  have h0 := h
  obtain ⟨a1, c1, rfl, -⟩ := h.form
  have hal := bal (Below.refl w.heap.size w) (.cells #[.slice none 0 0, .slice none 0 0, .int .i64 0] 25)
  have HAL := Lib.hid hal
  have HB0 := Lib.hid (Blk.new w pbZ 25)
  have HI := Lib.hid (h0.below hal)
  clear hal h h0
  go_enter Tryz.func19, Tryz.ntmps19
  go_upto_region 1 with fail
  generalize w.alloc (.cells #[.slice none 0 0, .slice none 0 0, .int .i64 0] 25) = W0 at *
  go_wp2_with (go_at_call 43; (with_reducible refine (clause_any _ l W0 HI.out).mono ?_); rintro e w1 ⟨vp, rfl, ⟨vl, vk, rfl, hq1, hq2, hq3⟩, hb1⟩; obtain ⟨al, nl, cl, rfl⟩ := hq1.form; obtain ⟨ak, nk, ck, rfl⟩ := hq2.form; have HQ1 := Lib.hid hq1; have HQ2 := Lib.hid hq2; have HQ3 := Lib.hid hq3; have HB1 := Lib.hid hb1; have kx := (HB0.out.below hb1).cell; have kf := (HB0.out.below hb1).free; have hz1 : w.heap.size < w1.heap.size := (HB0.out.below hb1).lt; clear hq1 hq2 hb1)
  have hal2 := fun (W : World) => bal (Below.refl W.heap.size W) (.cells #[.slice al nl cl, .slice ak nk ck, .int .i64 (clauseP l).1.bound] 25)
  have hb3 := below3 (bon HAL.out HB1.out) w.heap.size (Nat.le_refl _) (.slice al nl cl) (.slice ak nk ck) (.int .i64 (clauseP l).1.bound)
  have h1 := row3 HQ1.out w.heap.size HB0.out.lt (.slice al nl cl) (.slice ak nk ck) (.int .i64 (clauseP l).1.bound)
  have h2 := row3 HQ2.out w.heap.size HB0.out.lt (.slice al nl cl) (.slice ak nk ck) (.int .i64 (clauseP l).1.bound)
  have hz0 := HB0.out.lt
  refine bodyPost_ret (v := .agg #[.slice al nl cl, .slice ak nk ck, .int .i64 (clauseP l).1.bound]) (by simp [results, Tryz.f19, go_sem, kx, hz1]) rfl ⟨_, rfl, ⟨_, _, rfl, (h1.below (hal2 _)).mono (by omega), (h2.below (hal2 _)).mono (by omega), hq3⟩, bon hb3 (hal2 _)⟩
def setSix (W : World) (b : Nat) (v0 v1 v2 v3 v4 v5 : Value) : World := (((((W.setCell ⟨b, 0, none⟩ v0).setCell ⟨b, 1, none⟩ v1).setCell ⟨b, 2, none⟩ v2).setCell ⟨b, 3, none⟩ v3).setCell ⟨b, 4, none⟩ v4).setCell ⟨b, 5, none⟩ v5
theorem setSix_blk {W : World} {b : Nat} {x0 x1 x2 x3 x4 x5 : Value} {T : TypeId} (h : Blk W b [x0, x1, x2, x3, x4, x5] T) (v0 v1 v2 v3 v4 v5 : Value) : Blk (setSix W b v0 v1 v2 v3 v4 v5) b [v0, v1, v2, v3, v4, v5] T :=
  (((((h.set 0 v0).set 1 v1).set 2 v2).set 3 v3).set 4 v4).set 5 v5
theorem setSix_row {base : Nat} {W : World} {b : Nat} {c : List Value} {T : TypeId} {v : Value} {l : List Int} (hq : QRow base W v l) (h : Blk W b c T) (hT : T ≠ 3) (v0 v1 v2 v3 v4 v5 : Value) : QRow base (setSix W b v0 v1 v2 v3 v4 v5) v l :=
  (((((hq.store h hT 0 v0).store (h.set 0 v0) hT 1 v1).store ((h.set 0 v0).set 1 v1) hT 2 v2).store (((h.set 0 v0).set 1 v1).set 2 v2) hT 3 v3).store ((((h.set 0 v0).set 1 v1).set 2 v2).set 3 v3) hT 4 v4).store (((((h.set 0 v0).set 1 v1).set 2 v2).set 3 v3).set 4 v4) hT 5 v5
theorem setSix_below {n : Nat} {w W : World} (h : Below n w W) {b : Nat} (hb : n ≤ b) (v0 v1 v2 v3 v4 v5 : Value) : Below n w (setSix W b v0 v1 v2 v3 v4 v5) :=
  (((((h.setCell (p := ⟨b, 0, none⟩) hb v0).setCell (p := ⟨b, 1, none⟩) hb v1).setCell (p := ⟨b, 2, none⟩) hb v2).setCell (p := ⟨b, 3, none⟩) hb v3).setCell (p := ⟨b, 4, none⟩) hb v4).setCell (p := ⟨b, 5, none⟩) hb v5
def rupL (l : List Int) : ST := ⟨1, (clauseP l).1, [], []⟩
def RupOut (B : Nat) (c : PBC) (v : Value) (w : World) : Prop := ∃ a1 c1 a2 c2, v = .agg #[.int .u8 1, .slice a1 c.lits.length c1, .slice a2 c.coefs.length c2, .int .i64 c.bound, .slice none 0 0, .slice none 0 0] ∧ QRow B w (.slice a1 c.lits.length c1) c.lits ∧ QRow B w (.slice a2 c.coefs.length c2) c.coefs ∧ InI c.bound ∧ c.lits.length ≤ 65536 ∧ c.coefs.length ≤ 65536
theorem RupOut.below {B : Nat} {c : PBC} {v : Value} {w w' : World} (h : RupOut B c v w) (hb : Below w.heap.size w w') : RupOut B c v w' := by
  obtain ⟨a1, c1, a2, c2, e, h1, h2, h3⟩ := h
  exact ⟨a1, c1, a2, c2, e, h1.below hb, h2.below hb, h3⟩
set_option maxHeartbeats 4000000 in
set_option maxRecDepth 100000 in
theorem rup36_any (v : Value) (l : List Int) (w : World) (h : Ints w v l) :
    Calls Tryz.prog 20 #[v] w fun e w' => ∃ vp, e = .returned vp ∧ Below w.heap.size w w' ∧ RupOut w.heap.size (clauseP l).1 vp w' := by
  obtain ⟨a1, c1, rfl, -⟩ := id h.form
  have hal := bal (Below.refl w.heap.size w) (.cells #[.int .u8 0, .slice none 0 0, .slice none 0 0, .int .i64 0, .slice none 0 0, .slice none 0 0] 41)
  have HI := Lib.hid (h.below hal)
  have HB := Lib.hid hal
  have HX := Lib.hid (Blk.new w [.int .u8 0, .slice none 0 0, .slice none 0 0, .int .i64 0, .slice none 0 0, .slice none 0 0] 41)
  clear h hal
  obtain ⟨c, hc⟩ : ∃ c, (clauseP l).1 = c := ⟨_, rfl⟩
  have HC := Lib.hid hc
  rw [hc]
  clear hc
  go_enter Tryz.func20, Tryz.ntmps20
  go_upto_region 1 with fail
  generalize w.alloc (.cells #[.int .u8 0, .slice none 0 0, .slice none 0 0, .int .i64 0, .slice none 0 0, .slice none 0 0] 41) = W0 at *
  have kx := HX.out.cell
  go_wp2_with (go_at_call 19; (with_reducible refine (claw36_any _ l W0 HI.out).mono ?_); rintro e w1 ⟨vp, rfl, ⟨vl, vk, e1, hq1, hq2, hq3, hq4, hq5⟩, hb1⟩; rw [HC.out] at e1 hq1 hq2 hq3 hq4 hq5; subst e1; obtain ⟨al, cl, rfl⟩ := hq1.slen; obtain ⟨ak, ck, rfl⟩ := hq2.slen; have HQ1 := Lib.hid hq1; have HQ2 := Lib.hid hq2; have HQ3 := Lib.hid (And.intro hq3 (And.intro hq4 hq5)); have HB1 := Lib.hid (bon HB.out hb1); have HX1 := Lib.hid (HX.out.below hb1); have kx1 := HX1.out.cell; have kf1 := HX1.out.free; clear hq1 hq2 hq3 hq4 hq5 hb1 kx)
  have kz := (setSix_blk HX1.out (.int .u8 1) (.slice al c.lits.length cl) (.slice ak c.coefs.length ck) (.int .i64 c.bound) (.slice none 0 0) (.slice none 0 0)).cell
  have h1 := setSix_row HQ1.out HX1.out (by decide) (.int .u8 1) (.slice al c.lits.length cl) (.slice ak c.coefs.length ck) (.int .i64 c.bound) (.slice none 0 0) (.slice none 0 0)
  have h2 := setSix_row HQ2.out HX1.out (by decide) (.int .u8 1) (.slice al c.lits.length cl) (.slice ak c.coefs.length ck) (.int .i64 c.bound) (.slice none 0 0) (.slice none 0 0)
  have h3 := setSix_below HB1.out (Nat.le_refl _) (.int .u8 1) (.slice al c.lits.length cl) (.slice ak c.coefs.length ck) (.int .i64 c.bound) (.slice none 0 0) (.slice none 0 0)
  unfold setSix at kz h1 h2 h3
  refine bodyPost_ret (v := .agg #[.int .u8 1, .slice al c.lits.length cl, .slice ak c.coefs.length ck, .int .i64 c.bound, .slice none 0 0, .slice none 0 0]) (by simp [results, Tryz.f20, go_sem, kz]) rfl ?_
  exact ⟨_, rfl, h3, _, _, _, _, rfl, h1.mono HB.out.size, h2.mono HB.out.size, HQ3.out⟩
end Go.Proofs.YteblddnoegbalaaGreat
