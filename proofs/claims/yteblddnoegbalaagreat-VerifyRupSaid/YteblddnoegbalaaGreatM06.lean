/- My texts Pb3, Pb4, Val, Cmpct, Shelf, merged. -/
import Derived.Test.YteblddnoegbalaaGreatM05
import Derived.Test.YteblddnoegbalaaGreatM04
import Derived.Test.YteblddnoegbalaaGreatM03
import Derived.Test.YteblddnoegbalaaGreatM00
import Derived.Test.YteblddnoegbalaaGreatProg
import Derived.WalkKit
import Derived.Lib.Hide
import Derived.Deep.QuietTactic
import Derived.BigQuiet
import Derived.WalkSpells
import Derived.Lib.SliceRun
import Derived.MapKept
import Derived.Maps.OwnSet
import Derived.Maps.OwnOps
import Derived.Test.YteblddnoegbalaaGreatM02
import Derived.Test.YteblddnoegbalaaGreatM01
import Derived.Deep.AppendLies
import Derived.Lib.Bytealg
import Derived.Deep.DeepCutAuto
import Derived.RangeFuncNested
import Derived.RangeFuncBound
import Derived.RangeFuncCalls
import Derived.RangeFuncLeaves
import Derived.OwnWalkIn
import Derived.TacticsInMore
import Derived.LoopNIn
import Derived.LoopIn
import Derived.Stop.RegionWithIn
import Derived.Shelf.Abstract
import Derived.Sort.QuietThIn
import Derived.RangeFuncBox
import Derived.Maps.OwnIn
import Derived.Lib.SlicesCompact
import Derived.Shelf.Sort.Plain
import Derived.Shelf.Slices.CompactI
import Derived.Shelf.Slices.In.SortNone
import Derived.Shelf.Strconv.Itoa3
import Derived.Shelf.Strings.BuilderK
import Derived.Shelf.Slices.SearchI
import Derived.Shelf.Slices.Empties

namespace Go.Proofs.YteblddnoegbalaaGreat
open Go.RowKit Go.Shelf
attribute [local go_sem] Oper.semAt_some
structure VSt (c : PBC) (H : Nat) (w : World) (vl vk : Value) (pre : List (PV c)) (W : World) : Prop where
  ok : okF c.bound 0 (pvs pre) = true
  box : Blk W H [vl, vk, .int .i64 c.bound] 25
  res : Blk W (H + 1) [.bool false] 4
  last : Blk W (H + 1 + 1) [.int .i64 (lastF 0 (pvs pre))] 3
  sum : Blk W (H + 1 + 1 + 1) [.int .i64 (sumP (pvs pre))] 3
structure Up (w w1 W : World) : Prop where
  below : Below w.heap.size w W
  size : w1.heap.size ≤ W.heap.size
theorem Up.on {w w1 W W' : World} (h : Up w w1 W) (hb : Below W.heap.size W W') : Up w w1 W' := ⟨bon h.below hb, Nat.le_trans h.size hb.size⟩
theorem Up.set {w w1 W : World} (h : Up w w1 W) (b o : Nat) (v : Value) (hb : w.heap.size ≤ b) : Up w w1 (W.setCell ⟨b, o, none⟩ v) := ⟨h.below.setCell (p := ⟨b, o, none⟩) hb v, by rw [size_set]; exact h.size⟩
theorem Up.own {β : Type} {w w1 : World} {B : Nat} (hB : w.heap.size ≤ B) : OwnFrom B (fun (_ : β) W => Up w w1 W) := fun s X Y row hs hg hr =>
  ⟨ownFrom_below (Nat.le_refl _) hB s X Y row hs.below hg hr, Nat.le_trans hs.size hg.size⟩
theorem VSt.own {c : PBC} {H B : Nat} {w : World} {vl vk : Value} : OwnFrom B (fun pre W => VSt c H w vl vk pre W) := fun pre X Y row hs hg hrow => by
  have hr : ∀ r, row = some r → ∃ o : Obj, X.heap[r]? = some o ∧ o.isCells = false := fun r e => (hrow r e).2
  exact ⟨hs.ok, blk_ownP _ _ _ () X Y row hs.box hg hr, blk_ownP _ _ _ () X Y row hs.res hg hr, blk_ownP _ _ _ () X Y row hs.last hg hr, blk_ownP _ _ _ () X Y row hs.sum hg hr⟩
theorem pbV_of {c : PBC} (h1 : c.lits.length = c.coefs.length) (h2 : 0 ≤ c.bound ∧ c.bound ≤ 16777216) : pbV c = (okF c.bound 0 (c.lits.zip c.coefs) && (decide (c.bound ≤ sumP (c.lits.zip c.coefs)) || (decide (c.lits.length = 0) && decide (c.bound = 1)))) := by
  unfold pbV; rw [decide_eq_true h1, decide_eq_true h2]; rfl
theorem okF_small {bd : Int} {l : List (Int × Int)} (h : okF bd 0 l = true) (hb : bd ≤ 16777216) : 0 ≤ lastF 0 l ∧ lastF 0 l ≤ 65536 ∧ 0 ≤ sumP l ∧ sumP l ≤ 1099511627776 := by
  obtain ⟨h1, h2, h3, h4⟩ := okF_bound l 0 (Int.le_refl _) h
  by_cases e : l = []
  · subst e; simp [lastF, sumP]
  · have h5 := h4 e
    have h6 : (l.length : Int) ≤ 65536 := by omega
    have h7 : bd * (l.length : Int) ≤ 16777216 * 65536 := by
      refine Int.le_trans (Int.mul_le_mul_of_nonneg_right hb (by omega)) ?_
      exact Int.mul_le_mul_of_nonneg_left h6 (by omega)
    omega
theorem fit_mem {l : List Int} (h : Fits l) {x : Int} (hx : x ∈ l) : -9223372036854775808 ≤ x ∧ x ≤ 9223372036854775807 := by
  obtain ⟨j, hj, rfl⟩ := mem_ix_iff.1 hx
  exact h j
theorem pliteral_lit (l : Int) (b : Bool) (h : plitB l = b) (w : World) : Calls Tryz.prog 57 #[.int .i64 l] w fun e w' => e = .returned (.bool b) ∧ w = w' := h ▸ pliteral_any l w
theorem keepsO_below {W W' : World} (h : Below W.heap.size W W') : KeepsOthers W W' := ⟨h.size, fun k _ hk _ => (h.block k (Array.getElem?_eq_some_iff.1 hk).1).trans hk⟩
set_option maxHeartbeats 4000000 in
set_option maxRecDepth 100000 in
theorem pbValid_any (v : Value) (c : PBC) (w : World) (h : PBIs w v c) :
    Calls Tryz.prog 30 #[v] w fun e w' => e = .returned (.bool (pbV c)) ∧ Below w.heap.size w w' := by
  obtain ⟨vl, vk, rfl, hL, hK, hbd⟩ := h
  obtain ⟨a1, c1, rfl, -, hl1, -, -⟩ := hL.form
  obtain ⟨a2, c2, rfl, -, hl2, -, -⟩ := hK.form
  have HL := Lib.hid hL
  have HK := Lib.hid hK
  unfold InI at hbd
  clear hL hK
  by_cases h1 : c.lits.length = c.coefs.length
  · have HLN := Lib.hid h1
    rw [← h1] at HK hl2 ⊢
    clear h1
    by_cases h2 : c.bound < 0
    · have HF : Hid (pbV c = false) := Lib.hid (by unfold pbV; rw [decide_eq_false (show ¬ (0 ≤ c.bound ∧ c.bound ≤ 16777216) by omega)]; simp)
      go_enter Tryz.func30, Tryz.ntmps30
      go_wp2
      exact bodyPost_ret (v := .bool false) (by simp [results, Tryz.f30, go_sem]) rfl ⟨ret_bool HF.out.symm, by (repeat first | exact Below.refl _ _ | (refine Below.setCell ?_ (by first | omega | (simp; done) | (simp; omega)) _) | (refine bal ?_ _))⟩
    · by_cases h3 : 16777216 < c.bound
      · have HF : Hid (pbV c = false) := Lib.hid (by unfold pbV; rw [decide_eq_false (show ¬ (0 ≤ c.bound ∧ c.bound ≤ 16777216) by omega)]; simp)
        go_enter Tryz.func30, Tryz.ntmps30
        go_wp2
        exact bodyPost_ret (v := .bool false) (by simp [results, Tryz.f30, go_sem]) rfl ⟨ret_bool HF.out.symm, by (repeat first | exact Below.refl _ _ | (refine Below.setCell ?_ (by first | omega | (simp; done) | (simp; omega)) _) | (refine bal ?_ _))⟩
      · have HPV := Lib.hid (pbV_of HLN.out (show 0 ≤ c.bound ∧ c.bound ≤ 16777216 by omega))
        refine (callsIn_wide (n := 6)).1 ?_
        refine callsIn_of_wp_marks Tryz.func30 rfl trivial ?_ rfl
        simp only [Tryz.ntmps30, List.size_toArray, List.length_cons, List.length_nil, Nat.reduceAdd, Nat.reduceSub, Array.replicate_succ, Array.replicate_zero, List.push_toArray, List.append_toArray, List.nil_append, List.cons_append]
        gi_wp2_with (refine ⟨trivial, ?_⟩; gi_at_call 45; refine (callsIn_wide.2 (parts_any _ _ _ _ ⟨_, _, _, rfl⟩ ⟨_, _, _, rfl⟩)).mono ?_; rintro e w1 ⟨rfl, hb1, hp1⟩)
        have b0 := Blk.below (b := w.heap.size) (c := [.slice a1 c.lits.length c1, .slice a2 c.lits.length c2, .int .i64 c.bound]) (t := 25) (by repeat first | (refine Blk.newAt _ _ _ ?_; first | rfl | (simp only [World.size_alloc]; done) | (simp only [World.size_alloc]; omega)) | refine Blk.alloc ?_ _) hb1
        have b1 := Blk.below (b := w.heap.size + 1) (c := [.bool false]) (t := 4) (by repeat first | (refine Blk.newAt _ _ _ ?_; first | rfl | (simp only [World.size_alloc]; done) | (simp only [World.size_alloc]; omega)) | refine Blk.alloc ?_ _) hb1
        have b2 := Blk.below (b := w.heap.size + 1 + 1) (c := [.int .i64 0]) (t := 3) (by repeat first | (refine Blk.newAt _ _ _ ?_; first | rfl | (simp only [World.size_alloc]; done) | (simp only [World.size_alloc]; omega)) | refine Blk.alloc ?_ _) hb1
        have b3 := Blk.below (b := w.heap.size + 1 + 1 + 1) (c := [.int .i64 0]) (t := 3) (by repeat first | (refine Blk.newAt _ _ _ ?_; first | rfl | (simp only [World.size_alloc]; done) | (simp only [World.size_alloc]; omega)) | refine Blk.alloc ?_ _) hb1
        have hbw : Below w.heap.size w w1 := by
          refine Below.trans ?_ (hb1.mono (by simp; omega))
          (repeat first | exact Below.refl _ _ | (refine Below.setCell ?_ (by first | omega | (simp; done) | (simp; omega)) _) | (refine bal ?_ _))
        simp only [World.size_alloc] at hp1 hb1
        have hz := hp1.lt
        have hst : PartSt w w1 [w.heap.size + 1 + 1, w.heap.size + 1 + 1 + 1] (w.heap.size + 1 + 1 + 1 + 1) (.slice a1 c.lits.length c1) (.slice a2 c.lits.length c2) c.bound := ⟨fun i hi => hbw.block i hi, hbw.size, hp1⟩
        clear hb1 hp1
        refine parts_loop HL.out HK.out HLN.out hst (fun s hs => by simp only [List.mem_cons, List.not_mem_nil, or_false] at hs; omega) (by simp; omega) (by omega) rfl rfl
          (fun pre W => VSt c w.heap.size w (.slice a1 c.lits.length c1) (.slice a2 c.lits.length c2) pre W ∧ Up w w1 W)
          (fun e pre W => (Blk W (w.heap.size + 1) [.bool false] 4 ∧ (e = .ret ∧ okF c.bound 0 (pvs pre) = false)) ∧ Up w w1 W)
          (OwnFrom.and VSt.own (Up.own hbw.size))
          (fun e => OwnFrom.and (OwnFrom.and (Own.from (blk_ownP _ _ _) _) (ownFrom_pure _ _)) (Up.own hbw.size))
          ⟨⟨rfl, b0, b1, b2, b3⟩, hbw, Nat.le_refl _⟩
          ?a1 ?assign ?body ?done ?stop
        case assign =>
          intro l x W K hK
          gi_wp2
          exact hK
        case body =>
          rintro l pre x W ⟨hv, hB⟩ hlt
          have HV := Lib.hid hv
          have HB := Lib.hid hB
          obtain ⟨hok, k0, k1, k2, k3⟩ := hv
          obtain ⟨⟨x1, x2⟩, hx⟩ := x
          dsimp only
          have hx1 := fit_mem HL.out.2 (List.of_mem_zip hx).1
          have hx2 := fit_mem HK.out.2 (List.of_mem_zip hx).2
          have hsm := okF_small hok (by omega)
          have HX : Hid (okF c.bound 0 (pvs (pre ++ [⟨(x1, x2), hx⟩])) = chkB c.bound (lastF 0 (pvs pre)) (x1, x2)) := Lib.hid (by rw [pvs_snoc, okF_snoc, hok, Bool.true_and])
          have HS1 : Hid (lastF 0 (pvs (pre ++ [⟨(x1, x2), hx⟩])) = (x1.natAbs : Int)) := Lib.hid (by rw [pvs_snoc, lastF_snoc])
          have HS2 : Hid (sumP (pvs (pre ++ [⟨(x1, x2), hx⟩])) = sumP (pvs pre) + x2) := Lib.hid (by rw [pvs_snoc, sumP_snoc])
          have HQ0 := Lib.hid k0
          have HQ1 := Lib.hid k1
          have HQ2 := Lib.hid k2
          have HQ3 := Lib.hid k3
          have ex0 := fun (e : Ext W) (o : Nat) => (bcell e.below _ o k0.lt).trans (k0.cell o)
          have ex2 := fun (e : Ext W) => (bcell e.below _ 0 k2.lt).trans (k2.cell 0)
          clear hok k0 k1 k2 k3 hB hst b0 b1 b2 b3
          generalize lastF 0 (pvs pre) = L9 at *
          generalize sumP (pvs pre) = S9 at *
          have HCK : Hid (chkB c.bound L9 (x1, x2) = (plitB x1 && decide (L9 < (x1.natAbs : Int)) && decide (1 ≤ x2) && decide (x2 ≤ c.bound))) := Lib.hid rfl
          cases hlb : plitB x1 with
          | false =>
            have HLB := Lib.hid hlb
            have HCF : Hid (chkB c.bound L9 (x1, x2) = false) := Lib.hid (by rw [HCK.out, hlb]; rfl)
            clear hlb
            gi_wp2
            refine wp_region_extR (by kernel_rfl) (by kernel_rfl) (by kernel_rfl) ?_
            repeat (go_big_quiet_step ((first | (go_at_call 57; exact Calls.ext_of_same (pliteral_lit _ _ HLB.out _)) | (go_at_call 58; exact Calls.ext_of_same (abs_any _ HAB.out _)))))
            refine wpQuiet_nil ?_
            intro w9 hw'
            obtain ⟨e9, he9⟩ := hw'
            have hb9 := e9.below
            rw [← he9] at hb9
            clear he9 e9
            try dsimp only
            have HB9 := Lib.hid hb9
            have u1 := (HQ1.out.below hb9).cell 0
            have v1 := (HQ1.out.below hb9).free 0
            clear hb9
            gi_wp2
            exact ⟨(keepsO_below HB9.out).trans (KeepsOthers.setCell _ _ _), ⟨(HQ1.out.below HB9.out).set 0 _, rfl, by rw [HX.out, HCF.out]⟩, (HB.out.on HB9.out).set _ _ _ (by omega)⟩
          | true =>
            have HLB := Lib.hid hlb
            have hab : -65536 ≤ x1 ∧ x1 ≤ 65536 := by unfold plitB at hlb; rw [decide_eq_true_eq] at hlb; exact hlb.2
            have HAB : Hid (-4611686018427387904 ≤ x1 ∧ x1 ≤ 4611686018427387904) := Lib.hid (by omega)
            rw [hlb, Bool.true_and] at HCK
            clear hlb
            by_cases g1 : (x1.natAbs : Int) ≤ L9
            · have HCF : Hid (chkB c.bound L9 (x1, x2) = false) := Lib.hid (by rw [HCK.out, decide_eq_false (by omega)]; rfl)
              have d1 : decide ((x1.natAbs : Int) ≤ L9) = true := decide_eq_true g1
              gi_wp2
              refine wp_region_extR (by kernel_rfl) (by kernel_rfl) (by kernel_rfl) ?_
              repeat (go_big_quiet_step ((first | (go_at_call 57; exact Calls.ext_of_same (pliteral_lit _ _ HLB.out _)) | (go_at_call 58; exact Calls.ext_of_same (abs_any _ HAB.out _)))))
              refine wpQuiet_nil ?_
              intro w9 hw'
              obtain ⟨e9, he9⟩ := hw'
              have hb9 := e9.below
              rw [← he9] at hb9
              clear he9 e9
              try dsimp only
              have HB9 := Lib.hid hb9
              have u1 := (HQ1.out.below hb9).cell 0
              have v1 := (HQ1.out.below hb9).free 0
              clear hb9
              gi_wp2
              exact ⟨(keepsO_below HB9.out).trans (KeepsOthers.setCell _ _ _), ⟨(HQ1.out.below HB9.out).set 0 _, rfl, by rw [HX.out, HCF.out]⟩, (HB.out.on HB9.out).set _ _ _ (by omega)⟩
            · have d1 : decide ((x1.natAbs : Int) ≤ L9) = false := decide_eq_false g1
              by_cases g2 : x2 < 1
              · have HCF : Hid (chkB c.bound L9 (x1, x2) = false) := Lib.hid (by rw [HCK.out, decide_eq_false (show ¬ 1 ≤ x2 by omega)]; simp)
                have d2 : decide (x2 < 1) = true := decide_eq_true g2
                gi_wp2
                refine wp_region_extR (by kernel_rfl) (by kernel_rfl) (by kernel_rfl) ?_
                repeat (go_big_quiet_step ((first | (go_at_call 57; exact Calls.ext_of_same (pliteral_lit _ _ HLB.out _)) | (go_at_call 58; exact Calls.ext_of_same (abs_any _ HAB.out _)))))
                refine wpQuiet_nil ?_
                intro w9 hw'
                obtain ⟨e9, he9⟩ := hw'
                have hb9 := e9.below
                rw [← he9] at hb9
                clear he9 e9
                try dsimp only
                have HB9 := Lib.hid hb9
                have u1 := (HQ1.out.below hb9).cell 0
                have v1 := (HQ1.out.below hb9).free 0
                clear hb9
                gi_wp2
                exact ⟨(keepsO_below HB9.out).trans (KeepsOthers.setCell _ _ _), ⟨(HQ1.out.below HB9.out).set 0 _, rfl, by rw [HX.out, HCF.out]⟩, (HB.out.on HB9.out).set _ _ _ (by omega)⟩
              · have d2 : decide (x2 < 1) = false := decide_eq_false g2
                by_cases g3 : c.bound < x2
                · have HCF : Hid (chkB c.bound L9 (x1, x2) = false) := Lib.hid (by rw [HCK.out, decide_eq_false (show ¬ x2 ≤ c.bound by omega)]; simp)
                  have d3 : decide (c.bound < x2) = true := decide_eq_true g3
                  gi_wp2
                  refine wp_region_extR (by kernel_rfl) (by kernel_rfl) (by kernel_rfl) ?_
                  repeat (go_big_quiet_step ((first | (go_at_call 57; exact Calls.ext_of_same (pliteral_lit _ _ HLB.out _)) | (go_at_call 58; exact Calls.ext_of_same (abs_any _ HAB.out _)))))
                  refine wpQuiet_nil ?_
                  intro w9 hw'
                  obtain ⟨e9, he9⟩ := hw'
                  have hb9 := e9.below
                  rw [← he9] at hb9
                  clear he9 e9
                  try dsimp only
                  have HB9 := Lib.hid hb9
                  have u1 := (HQ1.out.below hb9).cell 0
                  have v1 := (HQ1.out.below hb9).free 0
                  clear hb9
                  gi_wp2
                  exact ⟨(keepsO_below HB9.out).trans (KeepsOthers.setCell _ _ _), ⟨(HQ1.out.below HB9.out).set 0 _, rfl, by rw [HX.out, HCF.out]⟩, (HB.out.on HB9.out).set _ _ _ (by omega)⟩
                · have d3 : decide (c.bound < x2) = false := decide_eq_false g3
                  have HCT : Hid (chkB c.bound L9 (x1, x2) = true) := Lib.hid (by rw [HCK.out, decide_eq_true (show L9 < (x1.natAbs : Int) by omega), decide_eq_true (show 1 ≤ x2 by omega), decide_eq_true (show x2 ≤ c.bound by omega)]; rfl)
                  gi_wp2
                  refine wp_region_extR (by kernel_rfl) (by kernel_rfl) (by kernel_rfl) ?_
                  repeat (go_big_quiet_step ((first | (go_at_call 57; exact Calls.ext_of_same (pliteral_lit _ _ HLB.out _)) | (go_at_call 58; exact Calls.ext_of_same (abs_any _ HAB.out _)))))
                  refine wpQuiet_nil ?_
                  intro w9 hw'
                  obtain ⟨e9, he9⟩ := hw'
                  have hb9 := e9.below
                  rw [← he9] at hb9
                  clear he9 e9
                  try dsimp only
                  have HB9 := Lib.hid hb9
                  have u2 := (HQ2.out.below hb9).cell 0
                  have u3 := (HQ3.out.below hb9).cell 0
                  have v2 := (HQ2.out.below hb9).free 0
                  have v3 := (HQ3.out.below hb9).free 0
                  have hs9 := hb9.size
                  have hsW := HB.out.below.size
                  have hsV := HB.out.size
                  clear hb9
                  gi_wp2_with (refine ⟨trivial, ?_⟩; gi_at_call 58; refine (CallsIn.inRound l (callsIn_wide.2 (abs_any _ HAB.out _))).mono ?_; rintro e w2 ⟨rfl, rfl⟩)
                  have hB9 := HB9.out
                  refine ⟨((keepsO_below hB9).trans (KeepsOthers.setCell _ _ _)).trans (KeepsOthers.setCell _ _ _), ((Lim.of_below hB9 (by omega)).trans (Lim.setCell _ (.inl (by simp)))).trans (Lim.setCell _ (.inl (by simp))), ⟨by rw [HX.out, HCT.out], ?_, ?_, ?_, ?_⟩, ?_⟩
                  · exact ((HQ0.out.below hB9).setOther _ _ (by omega)).setOther _ _ (by omega)
                  · exact ((HQ1.out.below hB9).setOther _ _ (by omega)).setOther _ _ (by omega)
                  · rw [HS1.out]
                    exact ((HQ2.out.below hB9).set 0 _).setOther _ _ (by omega)
                  · rw [HS2.out]
                    exact ((HQ3.out.below hB9).setOther _ _ (by omega)).set 0 _
                  · exact ((HB.out.on hB9).set _ _ _ (by omega)).set _ _ _ (by omega)
        case done =>
          rintro D xs W hD hS ⟨⟨hok, k0, k1, k2, k3⟩, hB⟩ hK
          have q0 := k0.cell
          have q1 := k1.cell 0
          have v1 := k1.free 0
          have q3 := k3.cell 0
          have HB := Lib.hid hB
          have HK1 := Lib.hid k1
          have hsm := okF_small hok (by omega)
          have HOK := Lib.hid hok
          have HS := Lib.hid hS
          have hfin : Hid (∀ b : Bool, (decide (c.bound ≤ sumP (pvs xs)) || (decide (c.lits.length = 0) && decide (c.bound = 1))) = b → pbV c = b) := Lib.hid (fun b h => by rw [HPV.out, ← HS.out, HOK.out, Bool.true_and]; exact h)
          have HD := Lib.hid hK
          have hDs := hbw.size
          clear hS hok k0 k1 k2 k3 hB hst b0 b1 b2 b3 hK
          generalize hS9 : sumP (pvs xs) = S9 at *
          clear hS9
          by_cases g1 : c.bound ≤ S9
          · have HF : Hid (pbV c = true) := Lib.hid (hfin.out true (by rw [decide_eq_true g1]; rfl))
            clear hfin
            gi_wp2
            have hK' := (KeepsOthers.setCell W ⟨w.heap.size + 1, 0, none⟩ (.bool true)).same D _ HD.out rfl
            refine ⟨by simp, .inl ⟨_, _, rfl, run_takeDeferred hK', ?_⟩⟩
            have hc5 := cell_kept (World.cell?_setCell_same' W ⟨w.heap.size + 1, 0, none⟩ (.bool true) (by rw [q1]; rfl)) (grownBy_putObj' _ D (.deferred none)) (fun r e => by cases e; exact ⟨_, hK', rfl⟩)
            refine ⟨.bool true, ?_, by rw [HF.out], (HB.out.below.setCell (p := ⟨w.heap.size + 1, 0, none⟩) (by simp) _).trans (belowK_b (w := w) (Nat.le_refl _) _ D _ _ (by omega) hK' rfl rfl)⟩
            simp [results, Tryz.f30, go_sem, hc5]
          · by_cases g2 : c.lits.length = 0
            · by_cases g3 : c.bound = 1
              · have HF : Hid (pbV c = true) := Lib.hid (hfin.out true (by rw [decide_eq_true g2, decide_eq_true g3]; simp))
                have d2 : ((c.lits.length : Int) == 0) = true := beq_iff_eq.2 (by omega)
                have d3 : (c.bound == 1) = true := by simp [g3]
                clear hfin g2 g3
                gi_wp2
                have hK' := (KeepsOthers.setCell W ⟨w.heap.size + 1, 0, none⟩ (.bool true)).same D _ HD.out rfl
                refine ⟨by simp, .inl ⟨_, _, rfl, run_takeDeferred hK', ?_⟩⟩
                have hc5 := cell_kept (World.cell?_setCell_same' W ⟨w.heap.size + 1, 0, none⟩ (.bool true) (by rw [q1]; rfl)) (grownBy_putObj' _ D (.deferred none)) (fun r e => by cases e; exact ⟨_, hK', rfl⟩)
                refine ⟨.bool true, ?_, by rw [HF.out], (HB.out.below.setCell (p := ⟨w.heap.size + 1, 0, none⟩) (by simp) _).trans (belowK_b (w := w) (Nat.le_refl _) _ D _ _ (by omega) hK' rfl rfl)⟩
                simp [results, Tryz.f30, go_sem, hc5]
              · have HF : Hid (pbV c = false) := Lib.hid (hfin.out false (by rw [decide_eq_false g1, decide_eq_false g3]; simp))
                have d2 : ((c.lits.length : Int) == 0) = true := beq_iff_eq.2 (by omega)
                have d3 : (c.bound == 1) = false := by simp [g3]
                clear hfin g2 g3
                gi_wp2
                have hK' := (KeepsOthers.setCell W ⟨w.heap.size + 1, 0, none⟩ (.bool false)).same D _ HD.out rfl
                refine ⟨by simp, .inl ⟨_, _, rfl, run_takeDeferred hK', ?_⟩⟩
                have hc5 := cell_kept (World.cell?_setCell_same' W ⟨w.heap.size + 1, 0, none⟩ (.bool false) (by rw [q1]; rfl)) (grownBy_putObj' _ D (.deferred none)) (fun r e => by cases e; exact ⟨_, hK', rfl⟩)
                refine ⟨.bool false, ?_, by rw [HF.out], (HB.out.below.setCell (p := ⟨w.heap.size + 1, 0, none⟩) (by simp) _).trans (belowK_b (w := w) (Nat.le_refl _) _ D _ _ (by omega) hK' rfl rfl)⟩
                simp [results, Tryz.f30, go_sem, hc5]
            · have HF : Hid (pbV c = false) := Lib.hid (hfin.out false (by rw [decide_eq_false g1, decide_eq_false g2]; simp))
              have d2 : ((c.lits.length : Int) == 0) = false := beq_eq_false_iff_ne.2 (by omega)
              clear hfin g2
              gi_wp2
              have hK' := (KeepsOthers.setCell W ⟨w.heap.size + 1, 0, none⟩ (.bool false)).same D _ HD.out rfl
              refine ⟨by simp, .inl ⟨_, _, rfl, run_takeDeferred hK', ?_⟩⟩
              have hc5 := cell_kept (World.cell?_setCell_same' W ⟨w.heap.size + 1, 0, none⟩ (.bool false) (by rw [q1]; rfl)) (grownBy_putObj' _ D (.deferred none)) (fun r e => by cases e; exact ⟨_, hK', rfl⟩)
              refine ⟨.bool false, ?_, by rw [HF.out], (HB.out.below.setCell (p := ⟨w.heap.size + 1, 0, none⟩) (by simp) _).trans (belowK_b (w := w) (Nat.le_refl _) _ D _ _ (by omega) hK' rfl rfl)⟩
              simp [results, Tryz.f30, go_sem, hc5]
        case stop =>
          rintro D e pre W hD ⟨k, hk, hS⟩ ⟨⟨bRW, rfl, hok⟩, hB⟩ hK
          have HF : Hid (pbV c = false) := Lib.hid (by
            rw [HPV.out, ← List.take_append_drop k (c.lits.zip c.coefs), ← hS, okF_false _ _ _ hok]; rfl)
          gi_wp2
          refine ⟨by simp, .inl ⟨_, _, rfl, run_takeDeferred hK, ?_⟩⟩
          have hc5 := cell_kept (bRW.cell 0) (grownBy_putObj' _ D (.deferred none)) (fun r e => by cases e; exact ⟨_, hK, rfl⟩)
          have hDs := hbw.size
          refine ⟨.bool false, ?_, by rw [HF.out], hB.below.trans (belowK_b (w := w) (Nat.le_refl _) W D _ _ (by omega) hK rfl rfl)⟩
          simp [results, Tryz.f30, go_sem, hc5]
  · have HF : Hid (pbV c = false) := Lib.hid (by unfold pbV; rw [decide_eq_false h1]; rfl)
    have h1' : ((c.lits.length : Int) != c.coefs.length) = true := by simp; omega
    clear h1
    go_enter Tryz.func30, Tryz.ntmps30
    go_wp2
    exact bodyPost_ret (v := .bool false) (by simp [results, Tryz.f30, go_sem]) rfl ⟨ret_bool HF.out.symm, by (repeat first | exact Below.refl _ _ | (refine Below.setCell ?_ (by first | omega | (simp; done) | (simp; omega)) _) | (refine bal ?_ _))⟩
end Go.Proofs.YteblddnoegbalaaGreat
namespace Go.Proofs.YteblddnoegbalaaGreat
open Go.RowKit Go.Shelf
attribute [local go_sem] Oper.semAt_some
theorem okF_mem {bd : Int} : ∀ {l : List (Int × Int)} {last : Int}, okF bd last l = true → ∀ x ∈ l, plitB x.1 = true ∧ 1 ≤ x.2 ∧ x.2 ≤ bd
  | [], _, _, x, hx => by cases hx
  | y :: l, last, h, x, hx => by
    unfold okF chkB at h
    simp only [Bool.and_eq_true, decide_eq_true_eq] at h
    rcases List.mem_cons.1 hx with rfl | hx
    · exact ⟨h.1.1.1.1, h.1.1.2, h.1.2⟩
    · exact okF_mem h.2 x hx
theorem sumW_bound {t : Int → Bool} {m : Int} (hm : 0 ≤ m) : ∀ {l : List (Int × Int)}, (∀ x ∈ l, 1 ≤ x.2 ∧ x.2 ≤ m) → 0 ≤ sumW t l ∧ sumW t l ≤ m * l.length
  | [], _ => by simp [sumW]
  | x :: l, h => by
    have ih := sumW_bound (t := t) hm (l := l) fun y hy => h y (.tail _ hy)
    have := h x (.head _)
    simp only [sumW, List.length_cons]
    push_cast
    rw [Int.mul_add]
    split <;> omega
theorem pbV_parts {c : PBC} (h : pbV c = true) : c.lits.length = c.coefs.length ∧ 0 ≤ c.bound ∧ c.bound ≤ 16777216 ∧ okF c.bound 0 (c.lits.zip c.coefs) = true ∧ (c.lits.length : Int) ≤ 65536 := by
  unfold pbV at h
  simp only [Bool.and_eq_true, decide_eq_true_eq] at h
  obtain ⟨⟨⟨h1, h2⟩, h3⟩, h4⟩ := h
  refine ⟨h1, h2.1, h2.2, h3, ?_⟩
  obtain ⟨a, b, d, e⟩ := okF_bound _ 0 (Int.le_refl _) h3
  by_cases e0 : c.lits.zip c.coefs = []
  · have := congrArg List.length e0
    rw [List.length_zip, ← h1, Nat.min_self] at this
    rw [this]; decide
  · have := e e0
    rw [List.length_zip, ← h1, Nat.min_self] at a
    omega
theorem pv_bound {c : PBC} (h : pbV c = true) {t : Int → Bool} {pre : List (PV c)} (hl : pre.length ≤ c.lits.length) : 0 ≤ sumW t (pvs pre) ∧ sumW t (pvs pre) ≤ 1099511627776 := by
  obtain ⟨h1, h2, h3, h4, h5⟩ := pbV_parts h
  have h6 := sumW_bound (t := t) (m := c.bound) h2 (l := pvs pre) fun x hx => by
    obtain ⟨y, hy, rfl⟩ := List.mem_map.1 hx
    exact (okF_mem h4 _ y.2).2
  rw [pvs_len] at h6
  have h7 : c.bound * (pre.length : Int) ≤ 16777216 * 65536 := Int.le_trans (Int.mul_le_mul_of_nonneg_right h3 (by omega)) (Int.mul_le_mul_of_nonneg_left (by omega) (by omega))
  omega
theorem pv_elem {c : PBC} (h : pbV c = true) (x : PV c) : x.1.1 ≠ 0 ∧ -65536 ≤ x.1.1 ∧ x.1.1 ≤ 65536 ∧ 1 ≤ x.1.2 ∧ x.1.2 ≤ 16777216 := by
  obtain ⟨h1, h2, h3, h4, h5⟩ := pbV_parts h
  obtain ⟨a, b, d⟩ := okF_mem h4 _ x.2
  unfold plitB at a
  rw [decide_eq_true_eq] at a
  omega
def onB (a : List Int) (l : Int) : Bool := decide (0 < valI a l)
def liB (a : List Int) (l : Int) : Bool := decide (0 ≤ valI a l)
def holdsC (c : PBC) (a : List Int) : Bool := pbV c && decide (c.bound ≤ sumW (onB a) (c.lits.zip c.coefs))
def slackC (c : PBC) (a : List Int) : Int := if pbV c then sumW (liB a) (c.lits.zip c.coefs) - c.bound else 0
structure HSt (c : PBC) (H sb : Nat) (vl vk va : Value) (s0 : Int) (t : Int → Bool) (pre : List (PV c)) (W : World) : Prop where
  box : Blk W H [vl, vk, .int .i64 c.bound] 25
  abox : Blk W (H + 1) [va] 51
  sum : Blk W sb [.int .i64 (s0 + sumW t (pvs pre))] 3
theorem HSt.own {c : PBC} {H sb B : Nat} {vl vk va : Value} {s0 : Int} {t : Int → Bool} : OwnFrom B (fun pre W => HSt c H sb vl vk va s0 t pre W) := fun pre X Y row hs hg hrow => by
  have hr : ∀ r, row = some r → ∃ o : Obj, X.heap[r]? = some o ∧ o.isCells = false := fun r e => (hrow r e).2
  exact ⟨blk_ownP _ _ _ () X Y row hs.box hg hr, blk_ownP _ _ _ () X Y row hs.abox hg hr, blk_ownP _ _ _ () X Y row hs.sum hg hr⟩
set_option maxHeartbeats 4000000 in
set_option maxRecDepth 100000 in
theorem holds_any (v va : Value) (c : PBC) (a : List Int) (w : World) (h : PBIs w v c) (ha : Bytes8 w va a) :
    Calls Tryz.prog 22 #[v, va] w fun e w' => e = .returned (.bool (holdsC c a)) ∧ Below w.heap.size w w' := by
  obtain ⟨vl, vk, rfl, hL, hK, hbd⟩ := h
  obtain ⟨a1, c1, rfl, -, hl1, -, -⟩ := hL.form
  obtain ⟨a2, c2, rfl, -, hl2, -, -⟩ := hK.form
  have ha0 := ha
  obtain ⟨⟨ad, ca, rfl, -⟩, -⟩ := ha0
  have hal : Below w.heap.size w (((w.alloc (.cells #[.slice a1 c.lits.length c1, .slice a2 c.coefs.length c2, .int .i64 c.bound] 25)).alloc (.cells #[.slice ad a.length ca] 51)).alloc (.cells #[.int .i64 0] 3)) := bal (bal (bal (Below.refl _ _) _) _) _
  have HAL := Lib.hid hal
  have HC : Hid (PBIs (((w.alloc (.cells #[.slice a1 c.lits.length c1, .slice a2 c.coefs.length c2, .int .i64 c.bound] 25)).alloc (.cells #[.slice ad a.length ca] 51)).alloc (.cells #[.int .i64 0] 3)) (.agg #[.slice a1 c.lits.length c1, .slice a2 c.coefs.length c2, .int .i64 c.bound]) c) := Lib.hid ⟨_, _, rfl, hL.below hal, hK.below hal, hbd⟩
  have BB : Hid (Blk (((w.alloc (.cells #[.slice a1 c.lits.length c1, .slice a2 c.coefs.length c2, .int .i64 c.bound] 25)).alloc (.cells #[.slice ad a.length ca] 51)).alloc (.cells #[.int .i64 0] 3)) w.heap.size [.slice a1 c.lits.length c1, .slice a2 c.coefs.length c2, .int .i64 c.bound] 25) := Lib.hid (by repeat first | (refine Blk.newAt _ _ _ ?_; first | rfl | (simp only [World.size_alloc]; done) | (simp only [World.size_alloc]; omega)) | refine Blk.alloc ?_ _)
  have BA : Hid (Blk (((w.alloc (.cells #[.slice a1 c.lits.length c1, .slice a2 c.coefs.length c2, .int .i64 c.bound] 25)).alloc (.cells #[.slice ad a.length ca] 51)).alloc (.cells #[.int .i64 0] 3)) (w.heap.size + 1) [.slice ad a.length ca] 51) := Lib.hid (by repeat first | (refine Blk.newAt _ _ _ ?_; first | rfl | (simp only [World.size_alloc]; done) | (simp only [World.size_alloc]; omega)) | refine Blk.alloc ?_ _)
  have BS : Hid (Blk (((w.alloc (.cells #[.slice a1 c.lits.length c1, .slice a2 c.coefs.length c2, .int .i64 c.bound] 25)).alloc (.cells #[.slice ad a.length ca] 51)).alloc (.cells #[.int .i64 0] 3)) (w.heap.size + 1 + 1) [.int .i64 0] 3) := Lib.hid (by repeat first | (refine Blk.newAt _ _ _ ?_; first | rfl | (simp only [World.size_alloc]; done) | (simp only [World.size_alloc]; omega)) | refine Blk.alloc ?_ _)
  have HL := Lib.hid hL
  have HK := Lib.hid hK
  have HA := Lib.hid ha
  unfold InI at hbd
  clear hL hK ha hal
  refine (callsIn_wide (n := 6)).1 ?_
  refine callsIn_of_wp_marks Tryz.func22 rfl trivial ?_ rfl
  simp only [Tryz.ntmps22, List.size_toArray, List.length_cons, List.length_nil, Nat.reduceAdd, Nat.reduceSub, Array.replicate_succ, Array.replicate_zero, List.push_toArray, List.append_toArray, List.nil_append, List.cons_append]
  cases hv : pbV c with
  | false =>
    have HF : Hid (holdsC c a = false) := Lib.hid (by unfold holdsC; rw [hv]; rfl)
    have HV := Lib.hid hv
    clear hv
    gi_wp2_with (refine ⟨trivial, ?_⟩; gi_at_call 30; refine (callsIn_wide.2 (pbValid_any _ c _ HC.out)).mono ?_; rintro e w0 ⟨ev, hb0⟩; rw [HV.out] at ev; subst ev; have kk0 := (BB.out.below hb0).cell; have kk1 := (BA.out.below hb0).cell; have kk2 := (BS.out.below hb0).cell; have kf2 := (BS.out.below hb0).free 0; have HB0 := Lib.hid (bon HAL.out hb0); have B0 := Lib.hid (BB.out.below hb0); have B1 := Lib.hid (BA.out.below hb0); have B2 := Lib.hid (BS.out.below hb0); clear hb0)
    exact ⟨.bool false, by simp [results, Tryz.f22, go_sem], by rw [HF.out], HB0.out⟩
  | true =>
    have HV := Lib.hid hv
    have HLN := Lib.hid (pbV_parts hv).1
    have hbb := (pbV_parts hv).2
    obtain ⟨hb0, hb1', -, hlen⟩ := hbb
    clear hv
    gi_wp2_with (first | (refine ⟨trivial, ?_⟩; gi_at_call 30; refine (callsIn_wide.2 (pbValid_any _ c _ HC.out)).mono ?_; rintro e w0 ⟨ev, hb0⟩; rw [HV.out] at ev; subst ev; have kk0 := (BB.out.below hb0).cell; have kk1 := (BA.out.below hb0).cell; have kk2 := (BS.out.below hb0).cell; have kf2 := (BS.out.below hb0).free 0; have HB0 := Lib.hid (bon HAL.out hb0); have B0 := Lib.hid (BB.out.below hb0); have B1 := Lib.hid (BA.out.below hb0); have B2 := Lib.hid (BS.out.below hb0); clear hb0) | (refine ⟨trivial, ?_⟩; gi_at_call 45; refine (callsIn_wide.2 (parts_any _ _ _ _ ⟨_, _, _, rfl⟩ ⟨_, _, _, rfl⟩)).mono ?_; rintro e w1 ⟨rfl, hb1, hp1⟩))
    have b0 := B0.out.below hb1
    have b1 := B1.out.below hb1
    have b2 := B2.out.below hb1
    have hbw := bon HB0.out hb1
    have hz := hp1.lt
    have hzs : w.heap.size + 1 + 1 < w0.heap.size := B2.out.lt
    have hst : PartSt w w1 [w.heap.size + 1 + 1] w0.heap.size (.slice a1 c.lits.length c1) (.slice a2 c.coefs.length c2) c.bound := ⟨fun i hi => hbw.block i hi, hbw.size, hp1⟩
    have hb1s := hb1.size
    clear hb1 hp1
    refine parts_loop HL.out HK.out HLN.out hst (fun s hs => by simp only [List.mem_cons, List.not_mem_nil, or_false] at hs; omega) (by simp; omega) (by omega) rfl rfl
      (fun pre W => HSt c w.heap.size (w.heap.size + 1 + 1) (.slice a1 c.lits.length c1) (.slice a2 c.coefs.length c2) (.slice ad a.length ca) 0 (onB a) pre W ∧ Up w w1 W)
      (fun _ _ _ => False)
      (OwnFrom.and HSt.own (Up.own hbw.size)) (fun _ _ _ _ _ h _ _ => h)
      ⟨⟨b0, b1, b2⟩, hbw, Nat.le_refl _⟩ ?a1 ?assign ?body ?done ?stop
    case assign =>
      intro l x W K hK
      gi_wp2
      exact hK
    case body =>
      rintro l pre x W ⟨⟨k0, k1, k2⟩, hU⟩ hlt
      have he := pv_elem HV.out x
      have hs := pv_bound HV.out (t := onB a) (pre := pre) (by omega)
      obtain ⟨⟨x1, x2⟩, hx⟩ := x
      dsimp only at he ⊢
      have HX0 : Hid (x1 ≠ 0) := Lib.hid he.1
      have HX1 : Hid (-4611686018427387904 ≤ x1 ∧ x1 ≤ 4611686018427387904) := Lib.hid (by omega)
      have hx2 : 1 ≤ x2 ∧ x2 ≤ 16777216 := he.2.2.2
      have HU := Lib.hid hU
      have HVA := Lib.hid (HA.out.below hU.below)
      have HK0 := Lib.hid k0
      have HK1 := Lib.hid k1
      have HK2 := Lib.hid k2
      have q1 := k1.cell 0
      have q2 := k2.cell 0
      have f2 := k2.free 0
      rw [Int.zero_add] at q2
      have HN : Hid (0 + sumW (onB a) (pvs (pre ++ [⟨(x1, x2), hx⟩])) = sumW (onB a) (pvs pre) + if onB a x1 then x2 else 0) := Lib.hid (by rw [Int.zero_add, pvs_snoc, sumW_snoc])
      have hU2 := hU.size
      clear k0 k1 k2 hU he hst b0 b1 b2
      generalize sumW (onB a) (pvs pre) = S9 at *
      by_cases hp : 0 < valI a x1
      · have HT : Hid (onB a x1 = true) := Lib.hid (decide_eq_true hp)
        gi_wp2_with (refine ⟨trivial, ?_⟩; gi_at_call 46; refine (CallsIn.inRound l (callsIn_wide.2 (pvalue_any _ a _ HVA.out _ HX0.out HX1.out))).mono ?_; rintro e w2 ⟨rfl, rfl⟩)
        refine ⟨KeepsOthers.setCell _ _ _, Lim.setCell _ (.inl (by simp)), ⟨HK0.out.setOther _ _ (by omega), HK1.out.setOther _ _ (by omega), ?_⟩, HU.out.set _ _ _ (by omega)⟩
        rw [HN.out, HT.out]
        exact HK2.out.set 0 _
      · have HT : Hid (onB a x1 = false) := Lib.hid (decide_eq_false hp)
        gi_wp2_with (refine ⟨trivial, ?_⟩; gi_at_call 46; refine (CallsIn.inRound l (callsIn_wide.2 (pvalue_any _ a _ HVA.out _ HX0.out HX1.out))).mono ?_; rintro e w2 ⟨rfl, rfl⟩)
        refine ⟨KeepsOthers.refl _, Lim.refl _ _ _, ⟨HK0.out, HK1.out, ?_⟩, HU.out⟩
        rw [HN.out, HT.out]
        have := HK2.out
        simpa using this
    case done =>
      rintro D xs W hD hS ⟨⟨k0, k1, k2⟩, hU⟩ hK
      have HK0 := Lib.hid k0
      have HK2 := Lib.hid k2
      have q0 := k0.cell
      have q2 := k2.cell 0
      rw [Int.zero_add] at q2
      have HF : Hid (holdsC c a = decide (c.bound ≤ sumW (onB a) (pvs xs))) := Lib.hid (by unfold holdsC; rw [HV.out, hS]; rfl)
      have HU := Lib.hid hU
      have HD := Lib.hid hK
      clear k0 k1 k2 hS hU hK hst b0 b1 b2
      gi_wp2
      refine ⟨by simp, .inl ⟨_, _, rfl, run_takeDeferred HD.out, ?_⟩⟩
      exact ⟨.bool (decide (c.bound ≤ sumW (onB a) (pvs xs))), by simp [results, Tryz.f22, go_sem], by rw [HF.out], HU.out.below.trans (belowK_b (w := w) (Nat.le_refl _) _ D _ _ (by omega) HD.out rfl rfl)⟩
    case stop => rintro D e pre W hD hS ⟨⟩
set_option maxHeartbeats 4000000 in
set_option maxRecDepth 100000 in
theorem slack_any (v va : Value) (c : PBC) (a : List Int) (w : World) (h : PBIs w v c) (ha : Bytes8 w va a) :
    Calls Tryz.prog 62 #[v, va] w fun e w' => e = .returned (.int .i64 (slackC c a)) ∧ Below w.heap.size w w' := by
  obtain ⟨vl, vk, rfl, hL, hK, hbd⟩ := h
  obtain ⟨a1, c1, rfl, -, hl1, -, -⟩ := hL.form
  obtain ⟨a2, c2, rfl, -, hl2, -, -⟩ := hK.form
  have ha0 := ha
  obtain ⟨⟨ad, ca, rfl, -⟩, -⟩ := ha0
  have hal : Below w.heap.size w ((w.alloc (.cells #[.slice a1 c.lits.length c1, .slice a2 c.coefs.length c2, .int .i64 c.bound] 25)).alloc (.cells #[.slice ad a.length ca] 51)) := bal (bal (Below.refl _ _) _) _
  have HAL := Lib.hid hal
  have HC : Hid (PBIs ((w.alloc (.cells #[.slice a1 c.lits.length c1, .slice a2 c.coefs.length c2, .int .i64 c.bound] 25)).alloc (.cells #[.slice ad a.length ca] 51)) (.agg #[.slice a1 c.lits.length c1, .slice a2 c.coefs.length c2, .int .i64 c.bound]) c) := Lib.hid ⟨_, _, rfl, hL.below hal, hK.below hal, hbd⟩
  have BB : Hid (Blk ((w.alloc (.cells #[.slice a1 c.lits.length c1, .slice a2 c.coefs.length c2, .int .i64 c.bound] 25)).alloc (.cells #[.slice ad a.length ca] 51)) w.heap.size [.slice a1 c.lits.length c1, .slice a2 c.coefs.length c2, .int .i64 c.bound] 25) := Lib.hid (by repeat first | (refine Blk.newAt _ _ _ ?_; first | rfl | (simp only [World.size_alloc]; done) | (simp only [World.size_alloc]; omega)) | refine Blk.alloc ?_ _)
  have BA : Hid (Blk ((w.alloc (.cells #[.slice a1 c.lits.length c1, .slice a2 c.coefs.length c2, .int .i64 c.bound] 25)).alloc (.cells #[.slice ad a.length ca] 51)) (w.heap.size + 1) [.slice ad a.length ca] 51) := Lib.hid (by repeat first | (refine Blk.newAt _ _ _ ?_; first | rfl | (simp only [World.size_alloc]; done) | (simp only [World.size_alloc]; omega)) | refine Blk.alloc ?_ _)
  have HL := Lib.hid hL
  have HK := Lib.hid hK
  have HA := Lib.hid ha
  unfold InI at hbd
  clear hL hK ha hal
  refine (callsIn_wide (n := 6)).1 ?_
  refine callsIn_of_wp_marks Tryz.func62 rfl trivial ?_ rfl
  simp only [Tryz.ntmps62, List.size_toArray, List.length_cons, List.length_nil, Nat.reduceAdd, Nat.reduceSub, Array.replicate_succ, Array.replicate_zero, List.push_toArray, List.append_toArray, List.nil_append, List.cons_append]
  cases hv : pbV c with
  | false =>
    have HF : Hid (slackC c a = 0) := Lib.hid (by unfold slackC; rw [hv]; rfl)
    have HV := Lib.hid hv
    clear hv
    gi_wp2_with (refine ⟨trivial, ?_⟩; gi_at_call 30; refine (callsIn_wide.2 (pbValid_any _ c _ HC.out)).mono ?_; rintro e w0 ⟨ev, hb0⟩; rw [HV.out] at ev; subst ev; have kk0 := (BB.out.below hb0).cell; have kk1 := (BA.out.below hb0).cell; have HB0 := Lib.hid (bon HAL.out hb0); have B0 := Lib.hid (BB.out.below hb0); have B1 := Lib.hid (BA.out.below hb0); have hzz := B1.out.lt; have hzy : w.heap.size < w0.heap.size := (by omega); clear hb0)
    exact ⟨.int .i64 0, by simp [results, Tryz.f62, go_sem], by rw [HF.out], HB0.out⟩
  | true =>
    have HV := Lib.hid hv
    have HLN := Lib.hid (pbV_parts hv).1
    have hbb := (pbV_parts hv).2
    obtain ⟨hb0, hb1', -, hlen⟩ := hbb
    clear hv
    gi_wp2_with (first | (refine ⟨trivial, ?_⟩; gi_at_call 30; refine (callsIn_wide.2 (pbValid_any _ c _ HC.out)).mono ?_; rintro e w0 ⟨ev, hb0⟩; rw [HV.out] at ev; subst ev; have kk0 := (BB.out.below hb0).cell; have kk1 := (BA.out.below hb0).cell; have HB0 := Lib.hid (bon HAL.out hb0); have B0 := Lib.hid (BB.out.below hb0); have B1 := Lib.hid (BA.out.below hb0); have hzz := B1.out.lt; have hzy : w.heap.size < w0.heap.size := (by omega); clear hb0) | (refine ⟨trivial, ?_⟩; gi_at_call 45; refine (callsIn_wide.2 (parts_any _ _ _ _ ⟨_, _, _, rfl⟩ ⟨_, _, _, rfl⟩)).mono ?_; rintro e w1 ⟨rfl, hb1, hp1⟩))
    have b0 := (B0.out.alloc _).below hb1
    have b1 := (B1.out.alloc _).below hb1
    have b2 := Blk.below (b := w0.heap.size) (c := [.int .i64 (-c.bound)]) (t := 3) (by repeat first | (refine Blk.newAt _ _ _ ?_; first | rfl | (simp only [World.size_alloc]; done) | (simp only [World.size_alloc]; omega)) | refine Blk.alloc ?_ _) hb1
    have hbw := bon (bal HB0.out _) hb1
    have hz := hp1.lt
    have hzs : w.heap.size + 1 < w0.heap.size := B1.out.lt
    simp only [World.size_alloc] at hz hp1 hb1
    have hst : PartSt w w1 [w0.heap.size] (w0.heap.size + 1) (.slice a1 c.lits.length c1) (.slice a2 c.coefs.length c2) c.bound := ⟨fun i hi => hbw.block i hi, hbw.size, hp1⟩
    have hb1s := hb1.size
    clear hb1 hp1
    refine parts_loop HL.out HK.out HLN.out hst (fun s hs => by simp only [List.mem_cons, List.not_mem_nil, or_false] at hs; omega) (by simp <;> omega) (by omega) rfl rfl
      (fun pre W => HSt c w.heap.size w0.heap.size (.slice a1 c.lits.length c1) (.slice a2 c.coefs.length c2) (.slice ad a.length ca) (-c.bound) (liB a) pre W ∧ Up w w1 W)
      (fun _ _ _ => False)
      (OwnFrom.and HSt.own (Up.own hbw.size)) (fun _ _ _ _ _ h _ _ => h)
      ⟨⟨b0, b1, by rw [show -c.bound + sumW (liB a) (pvs (c := c) []) = -c.bound by simp [pvs, sumW]]; exact b2⟩, hbw, Nat.le_refl _⟩ ?a1 ?assign ?body ?done ?stop
    case assign =>
      intro l x W K hK
      gi_wp2
      exact hK
    case body =>
      rintro l pre x W ⟨⟨k0, k1, k2⟩, hU⟩ hlt
      have he := pv_elem HV.out x
      have hs := pv_bound HV.out (t := liB a) (pre := pre) (by omega)
      obtain ⟨⟨x1, x2⟩, hx⟩ := x
      dsimp only at he ⊢
      have HX0 : Hid (x1 ≠ 0) := Lib.hid he.1
      have HX1 : Hid (-4611686018427387904 ≤ x1 ∧ x1 ≤ 4611686018427387904) := Lib.hid (by omega)
      have hx2 : 1 ≤ x2 ∧ x2 ≤ 16777216 := he.2.2.2
      have HU := Lib.hid hU
      have HVA := Lib.hid (HA.out.below hU.below)
      have HK0 := Lib.hid k0
      have HK1 := Lib.hid k1
      have HK2 := Lib.hid k2
      have q1 := k1.cell 0
      have q2 := k2.cell 0
      have f2 := k2.free 0
      have HN : Hid (-c.bound + sumW (liB a) (pvs (pre ++ [⟨(x1, x2), hx⟩])) = -c.bound + sumW (liB a) (pvs pre) + if liB a x1 then x2 else 0) := Lib.hid (by rw [pvs_snoc, sumW_snoc]; exact (Int.add_assoc _ _ _).symm)
      have hU2 := hU.size
      clear k0 k1 k2 hU he hst b0 b1 b2
      generalize sumW (liB a) (pvs pre) = S9 at *
      by_cases hp : 0 ≤ valI a x1
      · have HT : Hid (liB a x1 = true) := Lib.hid (decide_eq_true hp)
        gi_wp2_with (refine ⟨trivial, ?_⟩; gi_at_call 46; refine (CallsIn.inRound l (callsIn_wide.2 (pvalue_any _ a _ HVA.out _ HX0.out HX1.out))).mono ?_; rintro e w2 ⟨rfl, rfl⟩)
        refine ⟨KeepsOthers.setCell _ _ _, Lim.setCell _ (.inl (by simp)), ⟨HK0.out.setOther _ _ (by omega), HK1.out.setOther _ _ (by omega), ?_⟩, HU.out.set _ _ _ (by omega)⟩
        rw [HN.out, HT.out]
        exact HK2.out.set 0 _
      · have HT : Hid (liB a x1 = false) := Lib.hid (decide_eq_false hp)
        gi_wp2_with (refine ⟨trivial, ?_⟩; gi_at_call 46; refine (CallsIn.inRound l (callsIn_wide.2 (pvalue_any _ a _ HVA.out _ HX0.out HX1.out))).mono ?_; rintro e w2 ⟨rfl, rfl⟩)
        refine ⟨KeepsOthers.refl _, Lim.refl _ _ _, ⟨HK0.out, HK1.out, ?_⟩, HU.out⟩
        rw [HN.out, HT.out]
        have := HK2.out
        simpa using this
    case done =>
      rintro D xs W hD hS ⟨⟨k0, k1, k2⟩, hU⟩ hK
      have HK0 := Lib.hid k0
      have HK2 := Lib.hid k2
      have q0 := k0.cell
      have q2 := k2.cell 0
      have HF : Hid (slackC c a = -c.bound + sumW (liB a) (pvs xs)) := Lib.hid (by unfold slackC; rw [HV.out, hS]; show sumW (liB a) (c.lits.zip c.coefs) - c.bound = _; omega)
      have HU := Lib.hid hU
      have HD := Lib.hid hK
      clear k0 k1 k2 hS hU hK hst b0 b1 b2
      gi_wp2
      refine ⟨by simp, .inl ⟨_, _, rfl, run_takeDeferred HD.out, ?_⟩⟩
      exact ⟨.int .i64 (-c.bound + sumW (liB a) (pvs xs)), by simp [results, Tryz.f62, go_sem], by rw [HF.out], HU.out.below.trans (belowK_b (w := w) (Nat.le_refl _) _ D _ _ (by omega) HD.out rfl rfl)⟩
    case stop => rintro D e pre W hD hS ⟨⟩
end Go.Proofs.YteblddnoegbalaaGreat
namespace Go.Proofs.YteblddnoegbalaaGreat
open Go.RowKit Go.Shelf
attribute [local go_sem] Oper.semAt_some
abbrev EV (l : List Int) := { x : Int // x ∈ l }
def evs {l : List Int} (xs : List (EV l)) : List Int := xs.map (·.1)
theorem evs_snoc {l : List Int} (xs : List (EV l)) (x : EV l) : evs (xs ++ [x]) = evs xs ++ [x.1] := by simp [evs]
theorem evs_len {l : List Int} (xs : List (EV l)) : (evs xs).length = xs.length := by simp [evs]
theorem values_any (a : Option Addr) (n c : Nat) (w : World) :
    Calls Tryz.prog 80 #[.slice a n c] w fun e w' => e = .returned (.func (.func 119) #[] #[.pointer (some ⟨w.heap.size, 0, none⟩)]) ∧ Below w.heap.size w w' ∧ Blk w' w.heap.size [.slice a n c] 23 ∧ w'.heap.size = w.heap.size + 1 := by
  have HB : Hid (Below w.heap.size w (w.alloc (.cells #[.slice a n c] 23))) := Lib.hid (bal (Below.refl _ _) _)
  have HK := Lib.hid (Blk.new w [.slice a n c] 23)
  go_enter Tryz.func80, Tryz.ntmps80
  go_wp2
  go_ret
  exact ⟨rfl, HB.out, HK.out, by simp⟩
def ValRel (l : List Int) (n0 : Nat) (W0 : World) (J : List (EV l) → World → Prop) (i : Value) (wr : World) : Prop :=
  ∃ (k : Nat) (pre : List (EV l)), k ≤ l.length ∧ i = .int .i64 k ∧ evs pre = l.take k ∧ J pre wr ∧ Below n0 W0 wr
theorem take_ixV (l : List Int) (k : Nat) (hk : k < l.length) : l.take (k + 1) = l.take k ++ [ix l k] := by
  rw [List.take_add_one, List.getElem?_eq_getElem hk]
  simp [ix, List.getD_eq_getElem?_getD, List.getElem?_eq_getElem hk]
set_option maxHeartbeats 4000000 in
set_option maxRecDepth 100000 in
theorem vals_stops (l : List Int) (wi w0 : World) (v : Value) (n0 cb : Nat) (hI : Ints wi v l) (hb : Below wi.heap.size wi w0) (hcb : Blk w0 cb [v] 23) (_h1 : cb < n0) (h2 : wi.heap.size ≤ n0) (_h3 : n0 ≤ w0.heap.size) (n : Nat) (hn : 1 ≤ n) :
    SeqStopsK Fence.wide n Tryz.prog 119 #[.pointer (some ⟨cb, 0, none⟩)] (fun x : EV l => #[.int .i64 x.1]) (Below n0)
      (fun xs => evs xs = l) (fun _ => True) l.length w0 := by
  intro lp J Jx W hW hJ hJx hY h0
  obtain ⟨a1, c1, rfl, -, hl1, -, hcell1⟩ := hI.form
  have HC1 := Lib.hid hcell1
  have HY := Lib.hid hY
  have HJ := Lib.hid hJ
  have HJX := Lib.hid hJx
  have H0 := Lib.hid h0
  have HBW : Hid (Below wi.heap.size wi W) := Lib.hid (hb.trans (hW.mono hb.size))
  have HCB := Lib.hid (hcb.below hW)
  have kp := HCB.out.cell
  have hzW := hW.size
  have hzb := hb.size
  clear hY hJ hJx h0 hW hcell1 hb hcb hI
  refine callsIn_of_wp Tryz.func119 rfl trivial ?_ rfl
  simp only [Tryz.ntmps119, List.size_toArray, List.length_cons, List.length_nil, Nat.reduceAdd, Nat.reduceSub, Array.replicate_succ, Array.replicate_zero, List.push_toArray, List.append_toArray, List.nil_append, List.cons_append]
  gi_wp2
  clear kp
  gi_loopw [7] (fun i wr => ValRel l n0 W J i wr) (fun i _ => l.length - (intOf i).toNat)
  case atStart => exact ⟨0, [], Nat.zero_le _, rfl, by simp [evs], H0.out, Below.refl _ _⟩
  case round =>
    obtain ⟨k, pre, hk, rfl, hpre, hj, hlim⟩ := hrel
    have HJR := Lib.hid hj
    have HPRE := Lib.hid hpre
    have HLIM := Lib.hid hlim
    clear hj hpre hlim
    by_cases hlt : k < l.length
    · obtain ⟨b1, o1, rfl, hb1, hc1⟩ := HC1.out (by omega)
      have k1 := ((cell_of_same (o := o1 + k) (HLIM.out.block b1 (by omega))).trans (bcell HBW.out _ _ hb1)).trans (hc1 k hlt)
      have HLN : Hid (pre.length < l.length) := Lib.hid (by
        have h1 := congrArg List.length HPRE.out
        rw [evs_len, List.length_take] at h1
        omega)
      have HM : Hid (ix l k ∈ l) := Lib.hid (ix_mem hlt)
      have HZ := Lib.hid (take_ixV l k hlt)
      clear hc1
      obtain ⟨fn, tmps, assign, body, hy, hR⟩ := HY.out pre ⟨_, HM.out⟩ wr HJR.out HLN.out
      dsimp only at hy
      gi_wp2_with (refine hR.mono ?_; rintro e W3 h3; obtain ⟨bb, rfl, hbt, hbf⟩ := yieldEnd2 h3; have HBT := Lib.hid hbt; have HBF := Lib.hid hbf; clear hbt hbf h3)
      case roundEnd =>
        obtain rfl : bb = true := by simpa using ‹(!bb) = false›
        exact ⟨⟨k + 1, pre ++ [_], hlt, by go_num, by rw [evs_snoc, HPRE.out, HZ.out], (HBT.out (by first | exact rfl | exact trivial)).1, HLIM.out.trans (HBT.out (by first | exact rfl | exact trivial)).2⟩, by simp [intOf]; omega⟩
      obtain rfl : bb = false := by simpa using ‹(!bb) = true›
      refine bodyPost_ret (results_none rfl _ _ _) rfl ?_
      exact ⟨⟨_, rfl⟩, .inr ⟨pre ++ [_], trivial, HBF.out (by first | exact rfl | exact trivial)⟩⟩
    · gi_wp2
      go_end0
      obtain rfl : k = l.length := by omega
      exact ⟨⟨_, rfl⟩, .inl ⟨pre, by rw [HPRE.out, List.take_length], HJR.out⟩⟩
end Go.Proofs.YteblddnoegbalaaGreat
namespace Go.Proofs.YteblddnoegbalaaGreat
open Go.RowKit Go.Lib
theorem geti (l : List Int) {j : Nat} (hj : j < l.length) : l.toArray[j]! = l[j] := by
  rw [getElem!_pos l.toArray j (by simpa using hj)]
  simp
theorem compact_sorted {l : List Int} (hs : l.Pairwise (· ≤ ·)) : ∀ m, m ≤ l.length → (compactUpTo l.toArray m).Pairwise (· < ·) ∧ ∀ x, x ∈ compactUpTo l.toArray m ↔ ∃ j, j < m ∧ l.toArray[j]! = x
  | 0, _ => by simp [compactUpTo]
  | m + 1, hm => by
    obtain ⟨h1, h2⟩ := compact_sorted hs m (by omega)
    rw [List.pairwise_iff_getElem] at hs
    have hle : ∀ i j, i ≤ j → j < l.length → l.toArray[i]! ≤ l.toArray[j]! := fun i j hij hj => by
      rw [geti l hj, geti l (by omega)]
      by_cases e : i = j
      · subst e; exact Int.le_refl _
      · exact hs i j (by omega) hj (by omega)
    rw [compactUpTo_succ]
    by_cases hk : keeps l.toArray m = true
    · rw [if_pos hk]
      unfold keeps at hk
      simp only [decide_eq_true_eq] at hk
      refine ⟨List.pairwise_append.2 ⟨h1, List.pairwise_singleton _ _, fun x hx y hy => ?_⟩, fun x => ?_⟩
      · rw [List.mem_singleton] at hy
        subst hy
        obtain ⟨j, hj, rfl⟩ := (h2 x).1 hx
        have h3 := hle j (m - 1) (by omega) (by omega)
        have h4 := hle (m - 1) m (by omega) (by omega)
        rcases hk with hk | hk
        · omega
        · have : l.toArray[m - 1]! ≠ l.toArray[m]! := fun e => hk e.symm
          omega
      · rw [List.mem_append, h2 x, List.mem_singleton]
        constructor
        · rintro (⟨j, hj, e⟩ | e)
          · exact ⟨j, by omega, e⟩
          · exact ⟨m, by omega, e.symm⟩
        · rintro ⟨j, hj, e⟩
          by_cases h : j = m
          · subst h; exact .inr e.symm
          · exact .inl ⟨j, by omega, e⟩
    · rw [if_neg hk, List.append_nil]
      refine ⟨h1, fun x => ?_⟩
      rw [h2 x]
      unfold keeps at hk
      simp only [decide_eq_true_eq, not_or, ne_eq, Decidable.not_not] at hk
      constructor
      · rintro ⟨j, hj, e⟩
        exact ⟨j, by omega, e⟩
      · rintro ⟨j, hj, e⟩
        by_cases h : j = m
        · subst h; exact ⟨j - 1, by omega, hk.2.symm.trans e⟩
        · exact ⟨j, by omega, e⟩
theorem sortI_pairwise (l : List Int) : (l.mergeSort fun x y => decide (x ≤ y)).Pairwise (· ≤ ·) := by
  have := List.pairwise_mergeSort (le := fun x y : Int => decide (x ≤ y)) (fun a b c h1 h2 => by simp only [decide_eq_true_eq] at *; omega) (fun a b => by simp only [Bool.or_eq_true, decide_eq_true_eq]; omega) l
  exact this.imp fun h => by simpa using h
theorem sortI_mem (l : List Int) (x : Int) : x ∈ (l.mergeSort fun x y => decide (x ≤ y)) ↔ x ∈ l := (List.mergeSort_perm l _).mem_iff
theorem compact_set (l : List Int) : compact (l.mergeSort fun x y => decide (x ≤ y)) = setL l := by
  have h := compact_sorted (sortI_pairwise l) _ (Nat.le_refl _)
  refine sorted_eqP h.1 (setL_sorted l) fun x => ?_
  rw [mem_setL, ← sortI_mem l x]
  have h2 := h.2 x
  unfold compact
  rw [h2]
  constructor
  · rintro ⟨j, hj, e⟩
    rw [geti _ hj] at e
    exact e ▸ List.getElem_mem hj
  · intro hx
    obtain ⟨j, hj, e⟩ := List.mem_iff_getElem.1 hx
    exact ⟨j, hj, by rw [geti _ hj]; exact e⟩
theorem sortI_nodup {l s : List Int} (hn : l.Nodup) (hs : s.Pairwise (· < ·)) (h : ∀ x, x ∈ l ↔ x ∈ s) : (l.mergeSort fun x y => decide (x ≤ y)) = s := by
  refine sorted_eqP ?_ hs fun x => (sortI_mem l x).trans (h x)
  have h1 := sortI_pairwise l
  have h2 : (l.mergeSort fun x y => decide (x ≤ y)).Nodup := (List.mergeSort_perm l _).nodup_iff.2 hn
  exact (h1.and h2).imp fun h => by have := h.1; have := h.2; omega
theorem sortI_len (l : List Int) : (l.mergeSort fun x y => decide (x ≤ y)).length = l.length := List.length_mergeSort _
end Go.Proofs.YteblddnoegbalaaGreat
namespace Go.Proofs.YteblddnoegbalaaGreat
open Go.Shelf
def Tryz.lays189_ren : Go.Shelf.Ren := ⟨fun | 189 => 81 | 125 => 98 | 257 => 120 | 128 => 146 | 129 => 147 | 294 => 168 | 295 => 169 | 296 => 170 | 297 => 171 | 298 => 172 | 299 => 173 | 216 => 174 | 300 => 175 | 301 => 176 | 328 => 217 | 329 => 200 | 330 => 201 | 331 => 218 | 332 => 219 | 215 => 148 | 343 => 250 | n => n, fun | 28 => 23 | 3 => 3 | 46 => 149 | 0 => 0 | 51 => 184 | 53 => 186 | 4 => 4 | 183 => 177 | 182 => 176 | 131 => 181 | 5 => 5 | 9 => 9 | 218 => 217 | 222 => 221 | 228 => 237 | 229 => 55 | n => n, fun | n => n⟩
theorem Tryz.lays189 : Go.Proofs.Lays.n189 Tryz.prog Tryz.lays189_ren := {
  mixed := by kernel_rfl
  f125 := Tryz.func98.trans (congrArg some (by kernel_rfl))
  f128 := Tryz.func146.trans (congrArg some (by kernel_rfl))
  f129 := Tryz.func147.trans (congrArg some (by kernel_rfl))
  f189 := Tryz.func81.trans (congrArg some (by kernel_rfl))
  f215 := Tryz.func148.trans (congrArg some (by kernel_rfl))
  f216 := Tryz.func174.trans (congrArg some (by kernel_rfl))
  f257 := Tryz.func120.trans (congrArg some (by kernel_rfl))
  f294 := Tryz.func168.trans (congrArg some (by kernel_rfl))
  f295 := Tryz.func169.trans (congrArg some (by kernel_rfl))
  f296 := Tryz.func170.trans (congrArg some (by kernel_rfl))
  f297 := Tryz.func171.trans (congrArg some (by kernel_rfl))
  f298 := Tryz.func172.trans (congrArg some (by kernel_rfl))
  f299 := Tryz.func173.trans (congrArg some (by kernel_rfl))
  f300 := Tryz.func175.trans (congrArg some (by kernel_rfl))
  f301 := Tryz.func176.trans (congrArg some (by kernel_rfl))
  f328 := Tryz.func217.trans (congrArg some (by kernel_rfl))
  f329 := Tryz.func200.trans (congrArg some (by kernel_rfl))
  f330 := Tryz.func201.trans (congrArg some (by kernel_rfl))
  f331 := Tryz.func218.trans (congrArg some (by kernel_rfl))
  f332 := Tryz.func219.trans (congrArg some (by kernel_rfl))
  f343 := Tryz.func250.trans (congrArg some (by kernel_rfl))
  t0 := Tryz.underlying0
  a0 := Tryz.isAgg0
  z0 := Tryz.sizeOf0
  v0 := Tryz.zeroValue0
  t3 := Tryz.underlying3
  a3 := Tryz.isAgg3
  z3 := Tryz.sizeOf3
  v3 := Tryz.zeroValue3
  t4 := Tryz.underlying4
  a4 := Tryz.isAgg4
  z4 := Tryz.sizeOf4
  v4 := Tryz.zeroValue4
  t5 := Tryz.underlying5
  a5 := Tryz.isAgg5
  z5 := Tryz.sizeOf5
  v5 := Tryz.zeroValue5
  t9 := Tryz.underlying9
  a9 := Tryz.isAgg9
  z9 := Tryz.sizeOf9
  v9 := Tryz.zeroValue9
  t28 := Tryz.underlying23
  a28 := Tryz.isAgg23
  z28 := Tryz.sizeOf23
  v28 := Tryz.zeroValue23
  t46 := Tryz.underlying149
  a46 := Tryz.isAgg149
  z46 := Tryz.sizeOf149
  v46 := Tryz.zeroValue149
  t51 := Tryz.underlying184
  a51 := Tryz.isAgg184
  z51 := Tryz.sizeOf184
  v51 := Tryz.zeroValue184
  t53 := Tryz.underlying186
  a53 := Tryz.isAgg186
  z53 := Tryz.sizeOf186
  v53 := Tryz.zeroValue186
  t131 := Tryz.underlying181
  a131 := Tryz.isAgg181
  z131 := Tryz.sizeOf181
  v131 := Tryz.zeroValue181
  t182 := Tryz.underlying176
  a182 := Tryz.isAgg176
  z182 := Tryz.sizeOf176
  v182 := Tryz.zeroValue176
  t183 := Tryz.underlying177
  a183 := Tryz.isAgg177
  z183 := Tryz.sizeOf177
  v183 := Tryz.zeroValue177
  t218 := Tryz.underlying217
  a218 := Tryz.isAgg217
  z218 := Tryz.sizeOf217
  v218 := Tryz.zeroValue217
  t222 := Tryz.underlying221
  a222 := Tryz.isAgg221
  z222 := Tryz.sizeOf221
  v222 := Tryz.zeroValue221
  t228 := Tryz.underlying237
  a228 := Tryz.isAgg237
  z228 := Tryz.sizeOf237
  v228 := Tryz.zeroValue237
  t229 := Tryz.underlying55
  a229 := Tryz.isAgg55
  z229 := Tryz.sizeOf55
  v229 := Tryz.zeroValue55 }
open Go.Sort Go.RowKit in
theorem Tryz.slices_Sort_int (blk off cap : Nat) (zs : List Int) (w : World) (hH : Holds (Value.int .i64) w blk off zs.toArray) (hblk : blk < w.heap.size) (hsz : zs.length < 4611686018427387904) :
    Calls Tryz.prog 81 #[.slice (some ⟨blk, off, none⟩) zs.length cap] w fun e w' =>
      e = .returned (.tuple #[]) ∧ ∃ n os, w' = grow (putRow (Value.int .i64) (Sort.ahead w n) blk off (zs.mergeSort fun x y => decide (x ≤ y)).toArray) os := Any.slices_Sort_int Tryz.lays189 blk off cap zs w hH hblk hsz
def Tryz.laysNm220_ren : Go.Shelf.Ren := ⟨fun | 20 => 78 | n => n, fun | 22 => 23 | 3 => 3 | 4 => 4 | 0 => 0 | n => n, fun | n => n⟩
theorem Tryz.laysNm220 : Go.Proofs.Lays2.n20 Tryz.prog Tryz.laysNm220_ren := {
  mixed := by kernel_rfl
  f20 := Tryz.func78.trans (congrArg some (by kernel_rfl))
  t0 := Tryz.underlying0
  a0 := Tryz.isAgg0
  z0 := Tryz.sizeOf0
  v0 := Tryz.zeroValue0
  t3 := Tryz.underlying3
  a3 := Tryz.isAgg3
  z3 := Tryz.sizeOf3
  v3 := Tryz.zeroValue3
  t4 := Tryz.underlying4
  a4 := Tryz.isAgg4
  z4 := Tryz.sizeOf4
  v4 := Tryz.zeroValue4
  t22 := Tryz.underlying23
  a22 := Tryz.isAgg23
  z22 := Tryz.sizeOf23
  v22 := Tryz.zeroValue23
  i3 := by kernel_rfl }
open Go.RowKit Go.Lib Go.Sort in
theorem Tryz.slices_Compact_int (blk off cap : Nat) (zs : List Int) (w : World) (hH : Holds (Value.int .i64) w blk off zs.toArray) (hsz : zs.length ≤ 9223372036854775807) (hcap : zs.length ≤ cap) :
    Calls Tryz.prog 78 #[.slice (some ⟨blk, off, none⟩) zs.length cap] w fun e w' => e = .returned (.slice (some ⟨blk, off, none⟩) (Lib.compact zs).length cap) ∧ ∃ q, w' = putRow (Value.int .i64) (Sort.ahead w q) blk off (Lib.compact zs ++ List.replicate (zs.length - (Lib.compact zs).length) 0).toArray := Any.slices_Compact_int Tryz.laysNm220 blk off cap zs w hH hsz hcap
open Go.RowKit Go.Lib Go.Sort in
theorem Tryz.slices_Compact_int_empty (a : Option Addr) (cap : Nat) (w : World) :
    Calls Tryz.prog 78 #[.slice a 0 cap] w fun e w' => e = .returned (.slice a 0 cap) ∧ w' = w := Any.slices_Compact_int_empty Tryz.laysNm220 a cap w
open Go.RowKit Go.Sort in
theorem Tryz.slices_Sort_int_none (p : Option Addr) (cap : Nat) (w : World) :
    Calls Tryz.prog 81 #[.slice p 0 cap] w fun e w' => e = .returned (.tuple #[]) ∧ w' = w := Any.slices_Sort_int_none Tryz.lays189 p cap w
end Go.Proofs.YteblddnoegbalaaGreat
