/- My texts Pb3, Vld, Mk0, Shelf, Bld, merged. -/
import Derived.Test.YthclpkhaenaknaaGreatDoorM08
import Derived.Test.YthclpkhaenaknaaGreatDoorM09
import Derived.Test.YthclpkhaenaknaaGreatDoorM07
import Derived.Laws.EntriesVeiled
import Derived.Shelf.Sort.Plain
import Derived.Shelf.Slices.CompactI
import Derived.Shelf.Slices.In.SortNone
import Derived.Shelf.Strconv.Itoa3
import Derived.Shelf.Strings.BuilderK
import Derived.Test.YthclpkhaenaknaaGreatDoorProg
import Derived.Test.YthclpkhaenaknaaGreatDoorM00
import Derived.Deep.DeepCutAuto
import Derived.WalkKit

/- pb.Valid: its contract. -/
namespace Go.Proofs.YthclpkhaenaknaaGreatDoor
open Go.RowKit Go.Shelf
attribute [local go_sem] Oper.semAt_some


/-- Where Valid's loop is. -/
structure VSt (c : PBC) (H : Nat) (w : World) (vl vk : Value) (pre : List (PV c)) (W : World) : Prop where
  ok : okF c.bound 0 (pvs pre) = true
  box : Blk W H [vl, vk, .int .i64 c.bound] 30
  res : Blk W (H + 1) [.bool false] 4
  last : Blk W (H + 1 + 1) [.int .i64 (lastF 0 (pvs pre))] 3
  sum : Blk W (H + 1 + 1 + 1) [.int .i64 (sumP (pvs pre))] 3

/-- Behind w nothing is turned, and what w1 has is there. -/
structure Up (w w1 W : World) : Prop where
  below : Below w.heap.size w W
  size : w1.heap.size ≤ W.heap.size

theorem Up.on {w w1 W W' : World} (h : Up w w1 W) (hb : Below W.heap.size W W') : Up w w1 W' := ⟨bon h.below hb, Nat.le_trans h.size hb.size⟩
theorem Up.set {w w1 W : World} (h : Up w w1 W) (b o : Nat) (v : Value) (hb : w.heap.size ≤ b) : Up w w1 (W.setCell ⟨b, o, none⟩ v) := ⟨h.below.setCell (p := ⟨b, o, none⟩) hb v, by rw [size_set]; exact h.size⟩
theorem Up.own {β : Type} {w w1 : World} {B : Nat} (hB : w.heap.size ≤ B) : OwnFrom B (fun (_ : β) W => Up w w1 W) := fun s X Y row hs hg hr =>
  ⟨ownFrom_below (Nat.le_refl _) hB s X Y row hs.below hg hr, Nat.le_trans hs.size hg.size⟩

theorem VSt.own {c : PBC} {H B : Nat} {w : World} {vl vk : Value} : OwnFrom B (fun pre W => VSt c H w vl vk pre W) := fun pre X Y row hs hg hrow => by
  have hr : ∀ r, row = some r → ∃ o : Obj, X.heap[r]? = some o ∧ o.isCells = false := fun r e => (hrow r e).2
  exact ⟨hs.ok, blk_ownP _ _ _ () X Y row hs.box hg hr, blk_ownP _ _ _ () X Y row hs.res hg hr, blk_ownP _ _ _ () X Y row hs.last hg hr, blk_ownP _ _ _ () X Y row hs.sum hg hr⟩

theorem pbV_of {c : PBC} (h1 : c.lits.length = c.coefs.length) (h2 : 0 ≤ c.bound ∧ c.bound ≤ 16777216) : pbV c = (okF c.bound 0 (c.lits.zip c.coefs) && (decide (c.bound ≤ sumP (c.lits.zip c.coefs)) || (decide (c.lits.length = 0) && decide (c.bound = 1)))) := by
  unfold pbV; rw [decide_eq_true h1, decide_eq_true h2]; rfl

theorem okF_stop {bd : Int} {l r s : List (Int × Int)} {x : Int × Int} (h : chkB bd (lastF 0 l) x = false) (hl : l ++ [x] ++ r = s) : okF bd 0 s = false := by
  rw [← hl]
  refine okF_false _ _ _ ?_
  rw [okF_snoc, h, Bool.and_false]

theorem okF_small {bd : Int} {l : List (Int × Int)} (h : okF bd 0 l = true) (hb : bd ≤ 16777216) : 0 ≤ lastF 0 l ∧ lastF 0 l ≤ 65536 ∧ 0 ≤ sumP l ∧ sumP l ≤ 1099511627776 := by
  obtain ⟨h1, h2, h3, h4⟩ := okF_bound l 0 (Int.le_refl _) h
  by_cases e : l = []
  · subst e; simp [lastF, sumP]
  · have h5 := h4 e
    have h6 : (l.length : Int) ≤ 65536 := by omega
    have h7 : bd * (l.length : Int) ≤ 16777216 * 65536 := by
      refine Int.le_trans (Int.mul_le_mul_of_nonneg_right hb (by omega)) ?_
      exact Int.mul_le_mul_of_nonneg_left h6 (by omega)
    omega

theorem fit_mem {l : List Int} (h : Fits l) {x : Int} (hx : x ∈ l) : -9223372036854775808 ≤ x ∧ x ≤ 9223372036854775807 := by
  obtain ⟨j, hj, rfl⟩ := mem_ix_iff.1 hx
  exact h j

theorem pliteral_lit (l : Int) (b : Bool) (h : plitB l = b) (w : World) : Calls Tryz.prog 52 #[.int .i64 l] w fun e w' => e = .returned (.bool b) ∧ w = w' := h ▸ pliteral_any l w

theorem keepsO_below {W W' : World} (h : Below W.heap.size W W') : KeepsOthers W W' := ⟨h.size, fun k _ hk _ => (h.block k (Array.getElem?_eq_some_iff.1 hk).1).trans hk⟩


set_option maxHeartbeats 4000000 in
set_option maxRecDepth 100000 in
theorem pbValid_any (v : Value) (c : PBC) (w : World) (h : PBIs w v c) :
    Calls Tryz.prog 18 #[v] w fun e w' => e = .returned (.bool (pbV c)) ∧ Below w.heap.size w w' := by
  obtain ⟨vl, vk, rfl, hL, hK, hbd⟩ := h
  obtain ⟨a1, c1, rfl, -, hl1, -, -⟩ := hL.form
  obtain ⟨a2, c2, rfl, -, hl2, -, -⟩ := hK.form
  have HL := Lib.hid hL
  have HK := Lib.hid hK
  unfold InI at hbd
  clear hL hK
  by_cases h1 : c.lits.length = c.coefs.length
  · have HLN := Lib.hid h1
    rw [← h1] at HK hl2 ⊢
    clear h1
    by_cases h2 : c.bound < 0
    · have HF : Hid (pbV c = false) := Lib.hid (by unfold pbV; rw [decide_eq_false (show ¬ (0 ≤ c.bound ∧ c.bound ≤ 16777216) by omega)]; simp)
      go_enter Tryz.func18, Tryz.ntmps18
      go_wp2
      exact bodyPost_ret (v := .bool false) (by simp [results, Tryz.f18, go_sem]) rfl ⟨ret_bool HF.out.symm, by (repeat first | exact Below.refl _ _ | (refine Below.setCell ?_ (by first | omega | (simp; done) | (simp; omega)) _) | (refine bal ?_ _))⟩
    · by_cases h3 : 16777216 < c.bound
      · have HF : Hid (pbV c = false) := Lib.hid (by unfold pbV; rw [decide_eq_false (show ¬ (0 ≤ c.bound ∧ c.bound ≤ 16777216) by omega)]; simp)
        go_enter Tryz.func18, Tryz.ntmps18
        go_wp2
        exact bodyPost_ret (v := .bool false) (by simp [results, Tryz.f18, go_sem]) rfl ⟨ret_bool HF.out.symm, by (repeat first | exact Below.refl _ _ | (refine Below.setCell ?_ (by first | omega | (simp; done) | (simp; omega)) _) | (refine bal ?_ _))⟩
      · have HPV := Lib.hid (pbV_of HLN.out (show 0 ≤ c.bound ∧ c.bound ≤ 16777216 by omega))
        refine (callsIn_wide (n := 6)).1 ?_
        refine callsIn_of_wp_marks Tryz.func18 rfl trivial ?_ rfl
        simp only [Tryz.ntmps18, List.size_toArray, List.length_cons, List.length_nil, Nat.reduceAdd, Nat.reduceSub, Array.replicate_succ, Array.replicate_zero, List.push_toArray, List.append_toArray, List.nil_append, List.cons_append]
        gi_wp2_with (refine ⟨trivial, ?_⟩; gi_at_call 51; refine (callsIn_wide.2 (parts_any _ _ _ _ ⟨_, _, _, rfl⟩ ⟨_, _, _, rfl⟩)).mono ?_; rintro e w1 ⟨rfl, hb1, hp1⟩)
        have b0 := Blk.below (b := w.heap.size) (c := [.slice a1 c.lits.length c1, .slice a2 c.lits.length c2, .int .i64 c.bound]) (t := 30) (by repeat first | (refine Blk.newAt _ _ _ ?_; first | rfl | (simp only [World.size_alloc]; done) | (simp only [World.size_alloc]; omega)) | refine Blk.alloc ?_ _) hb1
        have b1 := Blk.below (b := w.heap.size + 1) (c := [.bool false]) (t := 4) (by repeat first | (refine Blk.newAt _ _ _ ?_; first | rfl | (simp only [World.size_alloc]; done) | (simp only [World.size_alloc]; omega)) | refine Blk.alloc ?_ _) hb1
        have b2 := Blk.below (b := w.heap.size + 1 + 1) (c := [.int .i64 0]) (t := 3) (by repeat first | (refine Blk.newAt _ _ _ ?_; first | rfl | (simp only [World.size_alloc]; done) | (simp only [World.size_alloc]; omega)) | refine Blk.alloc ?_ _) hb1
        have b3 := Blk.below (b := w.heap.size + 1 + 1 + 1) (c := [.int .i64 0]) (t := 3) (by repeat first | (refine Blk.newAt _ _ _ ?_; first | rfl | (simp only [World.size_alloc]; done) | (simp only [World.size_alloc]; omega)) | refine Blk.alloc ?_ _) hb1
        have hbw : Below w.heap.size w w1 := by
          refine Below.trans ?_ (hb1.mono (by simp; omega))
          (repeat first | exact Below.refl _ _ | (refine Below.setCell ?_ (by first | omega | (simp; done) | (simp; omega)) _) | (refine bal ?_ _))
        simp only [World.size_alloc] at hp1 hb1
        have hz := hp1.lt
        have hst : PartSt w w1 [w.heap.size + 1 + 1, w.heap.size + 1 + 1 + 1] (w.heap.size + 1 + 1 + 1 + 1) (.slice a1 c.lits.length c1) (.slice a2 c.lits.length c2) c.bound := ⟨fun i hi => hbw.block i hi, hbw.size, hp1⟩
        clear hb1 hp1
        refine parts_loop HL.out HK.out HLN.out hst (fun s hs => by simp only [List.mem_cons, List.not_mem_nil, or_false] at hs; omega) (by simp; omega) (by omega) rfl rfl
          (fun pre W => VSt c w.heap.size w (.slice a1 c.lits.length c1) (.slice a2 c.lits.length c2) pre W ∧ Up w w1 W)
          (fun e pre W => (Blk W (w.heap.size + 1) [.bool false] 4 ∧ (e = .ret ∧ okF c.bound 0 (pvs pre) = false)) ∧ Up w w1 W)
          (OwnFrom.and VSt.own (Up.own hbw.size))
          (fun e => OwnFrom.and (OwnFrom.and (Own.from (blk_ownP _ _ _) _) (ownFrom_pure _ _)) (Up.own hbw.size))
          ⟨⟨rfl, b0, b1, b2, b3⟩, hbw, Nat.le_refl _⟩
          ?a1 ?assign ?body ?done ?stop
        case assign =>
          intro l x W K hK
          gi_wp2
          exact hK
        case body =>
          rintro l pre x W ⟨hv, hB⟩ hlt
          have HV := Lib.hid hv
          have HB := Lib.hid hB
          obtain ⟨hok, k0, k1, k2, k3⟩ := hv
          obtain ⟨⟨x1, x2⟩, hx⟩ := x
          dsimp only
          have hx1 := fit_mem HL.out.2 (List.of_mem_zip hx).1
          have hx2 := fit_mem HK.out.2 (List.of_mem_zip hx).2
          have hsm := okF_small hok (by omega)
          have HX : Hid (okF c.bound 0 (pvs (pre ++ [⟨(x1, x2), hx⟩])) = chkB c.bound (lastF 0 (pvs pre)) (x1, x2)) := Lib.hid (by rw [pvs_snoc, okF_snoc, hok, Bool.true_and])
          have HS1 : Hid (lastF 0 (pvs (pre ++ [⟨(x1, x2), hx⟩])) = (x1.natAbs : Int)) := Lib.hid (by rw [pvs_snoc, lastF_snoc])
          have HS2 : Hid (sumP (pvs (pre ++ [⟨(x1, x2), hx⟩])) = sumP (pvs pre) + x2) := Lib.hid (by rw [pvs_snoc, sumP_snoc])
          have HQ0 := Lib.hid k0
          have HQ1 := Lib.hid k1
          have HQ2 := Lib.hid k2
          have HQ3 := Lib.hid k3
          have ex0 := fun (e : Ext W) (o : Nat) => (bcell e.below _ o k0.lt).trans (k0.cell o)
          have ex2 := fun (e : Ext W) => (bcell e.below _ 0 k2.lt).trans (k2.cell 0)
          clear hok k0 k1 k2 k3 hB hst b0 b1 b2 b3
          generalize lastF 0 (pvs pre) = L9 at *
          generalize sumP (pvs pre) = S9 at *
          have HCK : Hid (chkB c.bound L9 (x1, x2) = (plitB x1 && decide (L9 < (x1.natAbs : Int)) && decide (1 ≤ x2) && decide (x2 ≤ c.bound))) := Lib.hid rfl
          cases hlb : plitB x1 with
          | false =>
            have HLB := Lib.hid hlb
            have HCF : Hid (chkB c.bound L9 (x1, x2) = false) := Lib.hid (by rw [HCK.out, hlb]; rfl)
            clear hlb
            gi_wp2
            refine wp_region_extR (by kernel_rfl) (by kernel_rfl) (by kernel_rfl) ?_
            repeat (go_big_quiet_step ((first | (go_at_call 52; exact Calls.ext_of_same (pliteral_lit _ _ HLB.out _)) | (go_at_call 53; exact Calls.ext_of_same (abs_any _ HAB.out _)))))
            refine wpQuiet_nil ?_
            intro w9 hw'
            obtain ⟨e9, he9⟩ := hw'
            have hb9 := e9.below
            rw [← he9] at hb9
            clear he9 e9
            try dsimp only
            have HB9 := Lib.hid hb9
            have u1 := (HQ1.out.below hb9).cell 0
            have v1 := (HQ1.out.below hb9).free 0
            clear hb9
            gi_wp2
            exact ⟨(keepsO_below HB9.out).trans (KeepsOthers.setCell _ _ _), ⟨(HQ1.out.below HB9.out).set 0 _, rfl, by rw [HX.out, HCF.out]⟩, (HB.out.on HB9.out).set _ _ _ (by omega)⟩
          | true =>
            have HLB := Lib.hid hlb
            have hab : -65536 ≤ x1 ∧ x1 ≤ 65536 := by unfold plitB at hlb; rw [decide_eq_true_eq] at hlb; exact hlb.2
            have HAB : Hid (-4611686018427387904 ≤ x1 ∧ x1 ≤ 4611686018427387904) := Lib.hid (by omega)
            rw [hlb, Bool.true_and] at HCK
            clear hlb
            by_cases g1 : (x1.natAbs : Int) ≤ L9
            · have HCF : Hid (chkB c.bound L9 (x1, x2) = false) := Lib.hid (by rw [HCK.out, decide_eq_false (by omega)]; rfl)
              have d1 : decide ((x1.natAbs : Int) ≤ L9) = true := decide_eq_true g1
              gi_wp2
              refine wp_region_extR (by kernel_rfl) (by kernel_rfl) (by kernel_rfl) ?_
              repeat (go_big_quiet_step ((first | (go_at_call 52; exact Calls.ext_of_same (pliteral_lit _ _ HLB.out _)) | (go_at_call 53; exact Calls.ext_of_same (abs_any _ HAB.out _)))))
              refine wpQuiet_nil ?_
              intro w9 hw'
              obtain ⟨e9, he9⟩ := hw'
              have hb9 := e9.below
              rw [← he9] at hb9
              clear he9 e9
              try dsimp only
              have HB9 := Lib.hid hb9
              have u1 := (HQ1.out.below hb9).cell 0
              have v1 := (HQ1.out.below hb9).free 0
              clear hb9
              gi_wp2
              exact ⟨(keepsO_below HB9.out).trans (KeepsOthers.setCell _ _ _), ⟨(HQ1.out.below HB9.out).set 0 _, rfl, by rw [HX.out, HCF.out]⟩, (HB.out.on HB9.out).set _ _ _ (by omega)⟩
            · have d1 : decide ((x1.natAbs : Int) ≤ L9) = false := decide_eq_false g1
              by_cases g2 : x2 < 1
              · have HCF : Hid (chkB c.bound L9 (x1, x2) = false) := Lib.hid (by rw [HCK.out, decide_eq_false (show ¬ 1 ≤ x2 by omega)]; simp)
                have d2 : decide (x2 < 1) = true := decide_eq_true g2
                gi_wp2
                refine wp_region_extR (by kernel_rfl) (by kernel_rfl) (by kernel_rfl) ?_
                repeat (go_big_quiet_step ((first | (go_at_call 52; exact Calls.ext_of_same (pliteral_lit _ _ HLB.out _)) | (go_at_call 53; exact Calls.ext_of_same (abs_any _ HAB.out _)))))
                refine wpQuiet_nil ?_
                intro w9 hw'
                obtain ⟨e9, he9⟩ := hw'
                have hb9 := e9.below
                rw [← he9] at hb9
                clear he9 e9
                try dsimp only
                have HB9 := Lib.hid hb9
                have u1 := (HQ1.out.below hb9).cell 0
                have v1 := (HQ1.out.below hb9).free 0
                clear hb9
                gi_wp2
                exact ⟨(keepsO_below HB9.out).trans (KeepsOthers.setCell _ _ _), ⟨(HQ1.out.below HB9.out).set 0 _, rfl, by rw [HX.out, HCF.out]⟩, (HB.out.on HB9.out).set _ _ _ (by omega)⟩
              · have d2 : decide (x2 < 1) = false := decide_eq_false g2
                by_cases g3 : c.bound < x2
                · have HCF : Hid (chkB c.bound L9 (x1, x2) = false) := Lib.hid (by rw [HCK.out, decide_eq_false (show ¬ x2 ≤ c.bound by omega)]; simp)
                  have d3 : decide (c.bound < x2) = true := decide_eq_true g3
                  gi_wp2
                  refine wp_region_extR (by kernel_rfl) (by kernel_rfl) (by kernel_rfl) ?_
                  repeat (go_big_quiet_step ((first | (go_at_call 52; exact Calls.ext_of_same (pliteral_lit _ _ HLB.out _)) | (go_at_call 53; exact Calls.ext_of_same (abs_any _ HAB.out _)))))
                  refine wpQuiet_nil ?_
                  intro w9 hw'
                  obtain ⟨e9, he9⟩ := hw'
                  have hb9 := e9.below
                  rw [← he9] at hb9
                  clear he9 e9
                  try dsimp only
                  have HB9 := Lib.hid hb9
                  have u1 := (HQ1.out.below hb9).cell 0
                  have v1 := (HQ1.out.below hb9).free 0
                  clear hb9
                  gi_wp2
                  exact ⟨(keepsO_below HB9.out).trans (KeepsOthers.setCell _ _ _), ⟨(HQ1.out.below HB9.out).set 0 _, rfl, by rw [HX.out, HCF.out]⟩, (HB.out.on HB9.out).set _ _ _ (by omega)⟩
                · have d3 : decide (c.bound < x2) = false := decide_eq_false g3
                  have HCT : Hid (chkB c.bound L9 (x1, x2) = true) := Lib.hid (by rw [HCK.out, decide_eq_true (show L9 < (x1.natAbs : Int) by omega), decide_eq_true (show 1 ≤ x2 by omega), decide_eq_true (show x2 ≤ c.bound by omega)]; rfl)
                  gi_wp2
                  refine wp_region_extR (by kernel_rfl) (by kernel_rfl) (by kernel_rfl) ?_
                  repeat (go_big_quiet_step ((first | (go_at_call 52; exact Calls.ext_of_same (pliteral_lit _ _ HLB.out _)) | (go_at_call 53; exact Calls.ext_of_same (abs_any _ HAB.out _)))))
                  refine wpQuiet_nil ?_
                  intro w9 hw'
                  obtain ⟨e9, he9⟩ := hw'
                  have hb9 := e9.below
                  rw [← he9] at hb9
                  clear he9 e9
                  try dsimp only
                  have HB9 := Lib.hid hb9
                  have u2 := (HQ2.out.below hb9).cell 0
                  have u3 := (HQ3.out.below hb9).cell 0
                  have v2 := (HQ2.out.below hb9).free 0
                  have v3 := (HQ3.out.below hb9).free 0
                  have hs9 := hb9.size
                  have hsW := HB.out.below.size
                  have hsV := HB.out.size
                  clear hb9
                  gi_wp2_with (refine ⟨trivial, ?_⟩; gi_at_call 53; refine (CallsIn.inRound l (callsIn_wide.2 (abs_any _ HAB.out _))).mono ?_; rintro e w2 ⟨rfl, rfl⟩)
                  have hB9 := HB9.out
                  refine ⟨((keepsO_below hB9).trans (KeepsOthers.setCell _ _ _)).trans (KeepsOthers.setCell _ _ _), ((Lim.of_below hB9 (by omega)).trans (Lim.setCell _ (.inl (by simp)))).trans (Lim.setCell _ (.inl (by simp))), ⟨by rw [HX.out, HCT.out], ?_, ?_, ?_, ?_⟩, ?_⟩
                  · exact ((HQ0.out.below hB9).setOther _ _ (by omega)).setOther _ _ (by omega)
                  · exact ((HQ1.out.below hB9).setOther _ _ (by omega)).setOther _ _ (by omega)
                  · rw [HS1.out]
                    exact ((HQ2.out.below hB9).set 0 _).setOther _ _ (by omega)
                  · rw [HS2.out]
                    exact ((HQ3.out.below hB9).setOther _ _ (by omega)).set 0 _
                  · exact ((HB.out.on hB9).set _ _ _ (by omega)).set _ _ _ (by omega)
        case done =>
          rintro D xs W hD hS ⟨⟨hok, k0, k1, k2, k3⟩, hB⟩ hK
          have q0 := k0.cell
          have q1 := k1.cell 0
          have v1 := k1.free 0
          have q3 := k3.cell 0
          have HB := Lib.hid hB
          have HK1 := Lib.hid k1
          have hsm := okF_small hok (by omega)
          have HOK := Lib.hid hok
          have HS := Lib.hid hS
          have hfin : Hid (∀ b : Bool, (decide (c.bound ≤ sumP (pvs xs)) || (decide (c.lits.length = 0) && decide (c.bound = 1))) = b → pbV c = b) := Lib.hid (fun b h => by rw [HPV.out, ← HS.out, HOK.out, Bool.true_and]; exact h)
          have HD := Lib.hid hK
          have hDs := hbw.size
          clear hS hok k0 k1 k2 k3 hB hst b0 b1 b2 b3 hK
          generalize hS9 : sumP (pvs xs) = S9 at *
          clear hS9
          by_cases g1 : c.bound ≤ S9
          · have HF : Hid (pbV c = true) := Lib.hid (hfin.out true (by rw [decide_eq_true g1]; rfl))
            clear hfin
            gi_wp2
            have hK' := (KeepsOthers.setCell W ⟨w.heap.size + 1, 0, none⟩ (.bool true)).same D _ HD.out rfl
            refine ⟨by simp, .inl ⟨_, _, rfl, run_takeDeferred hK', ?_⟩⟩
            have hc5 := cell_kept (World.cell?_setCell_same' W ⟨w.heap.size + 1, 0, none⟩ (.bool true) (by rw [q1]; rfl)) (grownBy_putObj' _ D (.deferred none)) (fun r e => by cases e; exact ⟨_, hK', rfl⟩)
            refine ⟨.bool true, ?_, by rw [HF.out], (HB.out.below.setCell (p := ⟨w.heap.size + 1, 0, none⟩) (by simp) _).trans (belowK_b (w := w) (Nat.le_refl _) _ D _ _ (by omega) hK' rfl rfl)⟩
            simp [results, Tryz.f18, go_sem, hc5]
          · by_cases g2 : c.lits.length = 0
            · by_cases g3 : c.bound = 1
              · have HF : Hid (pbV c = true) := Lib.hid (hfin.out true (by rw [decide_eq_true g2, decide_eq_true g3]; simp))
                have d2 : ((c.lits.length : Int) == 0) = true := beq_iff_eq.2 (by omega)
                have d3 : (c.bound == 1) = true := by simp [g3]
                clear hfin g2 g3
                gi_wp2
                have hK' := (KeepsOthers.setCell W ⟨w.heap.size + 1, 0, none⟩ (.bool true)).same D _ HD.out rfl
                refine ⟨by simp, .inl ⟨_, _, rfl, run_takeDeferred hK', ?_⟩⟩
                have hc5 := cell_kept (World.cell?_setCell_same' W ⟨w.heap.size + 1, 0, none⟩ (.bool true) (by rw [q1]; rfl)) (grownBy_putObj' _ D (.deferred none)) (fun r e => by cases e; exact ⟨_, hK', rfl⟩)
                refine ⟨.bool true, ?_, by rw [HF.out], (HB.out.below.setCell (p := ⟨w.heap.size + 1, 0, none⟩) (by simp) _).trans (belowK_b (w := w) (Nat.le_refl _) _ D _ _ (by omega) hK' rfl rfl)⟩
                simp [results, Tryz.f18, go_sem, hc5]
              · have HF : Hid (pbV c = false) := Lib.hid (hfin.out false (by rw [decide_eq_false g1, decide_eq_false g3]; simp))
                have d2 : ((c.lits.length : Int) == 0) = true := beq_iff_eq.2 (by omega)
                have d3 : (c.bound == 1) = false := by simp [g3]
                clear hfin g2 g3
                gi_wp2
                have hK' := (KeepsOthers.setCell W ⟨w.heap.size + 1, 0, none⟩ (.bool false)).same D _ HD.out rfl
                refine ⟨by simp, .inl ⟨_, _, rfl, run_takeDeferred hK', ?_⟩⟩
                have hc5 := cell_kept (World.cell?_setCell_same' W ⟨w.heap.size + 1, 0, none⟩ (.bool false) (by rw [q1]; rfl)) (grownBy_putObj' _ D (.deferred none)) (fun r e => by cases e; exact ⟨_, hK', rfl⟩)
                refine ⟨.bool false, ?_, by rw [HF.out], (HB.out.below.setCell (p := ⟨w.heap.size + 1, 0, none⟩) (by simp) _).trans (belowK_b (w := w) (Nat.le_refl _) _ D _ _ (by omega) hK' rfl rfl)⟩
                simp [results, Tryz.f18, go_sem, hc5]
            · have HF : Hid (pbV c = false) := Lib.hid (hfin.out false (by rw [decide_eq_false g1, decide_eq_false g2]; simp))
              have d2 : ((c.lits.length : Int) == 0) = false := beq_eq_false_iff_ne.2 (by omega)
              clear hfin g2
              gi_wp2
              have hK' := (KeepsOthers.setCell W ⟨w.heap.size + 1, 0, none⟩ (.bool false)).same D _ HD.out rfl
              refine ⟨by simp, .inl ⟨_, _, rfl, run_takeDeferred hK', ?_⟩⟩
              have hc5 := cell_kept (World.cell?_setCell_same' W ⟨w.heap.size + 1, 0, none⟩ (.bool false) (by rw [q1]; rfl)) (grownBy_putObj' _ D (.deferred none)) (fun r e => by cases e; exact ⟨_, hK', rfl⟩)
              refine ⟨.bool false, ?_, by rw [HF.out], (HB.out.below.setCell (p := ⟨w.heap.size + 1, 0, none⟩) (by simp) _).trans (belowK_b (w := w) (Nat.le_refl _) _ D _ _ (by omega) hK' rfl rfl)⟩
              simp [results, Tryz.f18, go_sem, hc5]
        case stop =>
          rintro D e pre W hD ⟨k, hk, hS⟩ ⟨⟨bRW, rfl, hok⟩, hB⟩ hK
          have HF : Hid (pbV c = false) := Lib.hid (by
            rw [HPV.out, ← List.take_append_drop k (c.lits.zip c.coefs), ← hS, okF_false _ _ _ hok]; rfl)
          gi_wp2
          refine ⟨by simp, .inl ⟨_, _, rfl, run_takeDeferred hK, ?_⟩⟩
          have hc5 := cell_kept (bRW.cell 0) (grownBy_putObj' _ D (.deferred none)) (fun r e => by cases e; exact ⟨_, hK, rfl⟩)
          have hDs := hbw.size
          refine ⟨.bool false, ?_, by rw [HF.out], hB.below.trans (belowK_b (w := w) (Nat.le_refl _) W D _ _ (by omega) hK rfl rfl)⟩
          simp [results, Tryz.f18, go_sem, hc5]
  · have HF : Hid (pbV c = false) := Lib.hid (by unfold pbV; rw [decide_eq_false h1]; rfl)
    have h1' : ((c.lits.length : Int) != c.coefs.length) = true := by simp; omega
    clear h1
    go_enter Tryz.func18, Tryz.ntmps18
    go_wp2
    exact bodyPost_ret (v := .bool false) (by simp [results, Tryz.f18, go_sem]) rfl ⟨ret_bool HF.out.symm, by (repeat first | exact Below.refl _ _ | (refine Below.setCell ?_ (by first | omega | (simp; done) | (simp; omega)) _) | (refine bal ?_ _))⟩

end Go.Proofs.YthclpkhaenaknaaGreatDoor

/- loops.Valid. -/
namespace Go.Proofs.YthclpkhaenaknaaGreatDoor
open Go.RowKit

set_option maxHeartbeats 1000000 in
theorem v2_any (l : Int) (fb cb : Nat) (L : List Int) (w : World) (hf : Blk w fb [.func (.func 43) #[] #[.pointer (some ⟨cb, 0, none⟩)]] 77) (h : InV w cb L) (hl : 1 ≤ l.natAbs ∧ l.natAbs ≤ 1000000) :
    Calls Tryz.prog 45 #[.int .i64 l, .pointer (some ⟨fb, 0, none⟩)] w fun e w' => e = .returned (.bool (inB L (-l))) ∧ w = w' := by
  have k0 := hf.cell 0
  have H := Lib.hid h
  have hl2 : 1 ≤ (-l).natAbs ∧ (-l).natAbs ≤ 1000000 := by omega
  have HL2 := Lib.hid hl2
  clear hf h hl2
  go_enter Tryz.func45, Tryz.ntmps45
  go_wp2_with (go_at_call 43; (with_reducible refine (inV_any (-l) cb L _ H.out HL2.out).mono ?_); rintro e w1 ⟨rfl, rfl⟩)
  go_ret
  exact ⟨rfl, rfl⟩

set_option maxHeartbeats 1000000 in
theorem idx_v2 (v : Value) (l : List Int) (w : World) (h : Ints w v l) (g : Nat → Bool) (cap : Value)
    (hg : ∀ w', Below w.heap.size w w' → ∀ j, j < l.length → Calls Tryz.prog 45 #[.int .i64 (ix l j), cap] w' fun e w'' => e = .returned (.bool (g j)) ∧ Below w'.heap.size w' w'') :
    Calls Tryz.prog 72 #[v, .func (.func 45) #[] #[cap]] w fun e w' => ∃ r, e = .returned (.int .i64 r) ∧ IxP l.length g r ∧ Below w.heap.size w w' := by
  obtain ⟨a1, c1, rfl, -, hl1, -, hcell⟩ := h.form
  have HG := Lib.hid hg
  clear h hg
  go_enter Tryz.func72, Tryz.ntmps72
  go_wp2
  go_loopw [8] (fun i wx => IxR l.length g w i wx) (fun i _ => l.length - (intOf i).toNat)
  case atStart => exact ⟨0, by omega, rfl, fun j hj => absurd hj (Nat.not_lt_zero _), Below.refl _ _⟩
  case round =>
    obtain ⟨k, hk, rfl, hall, hb⟩ := hrel
    have HA := Lib.hid hall
    clear hall
    by_cases hlt : k < l.length
    · obtain ⟨b, off, rfl, hbl, hc⟩ := hcell (by omega)
      have hk1 := (bcell hb _ _ hbl).trans (hc k hlt)
      clear hc hcell
      cases g1 : g k with
      | true =>
        have HK : Hid (_ = true) := Lib.hid g1
        have HC := Lib.hid (HG.out _ hb k hlt)
        rw [g1] at HC
        clear g1
        go_wp2_with (go_at_call 45; refine (HC.out).mono ?_; rintro e w1 ⟨rfl, hb1⟩)
        go_ret
        exact ⟨_, rfl, .inr ⟨k, hlt, rfl, HK.out, HA.out⟩, bon hb hb1⟩
      | false =>
        have HN := Lib.hid (lt_succ_all HA.out g1)
        have HC := Lib.hid (HG.out _ hb k hlt)
        rw [g1] at HC
        clear g1
        go_wp2_with (go_at_call 45; refine (HC.out).mono ?_; rintro e w1 ⟨rfl, hb1⟩)
        first
          | (go_roundw
             case rel => (exact ⟨k + 1, by omega, by go_num, HN.out, bon hb hb1⟩)
             case measure => (simp [intOf]; omega))
          | (refine ⟨?_, ?_⟩
             · (exact ⟨k + 1, by omega, by go_num, HN.out, bon hb hb1⟩)
             · (simp [intOf]; omega))
    · have HN : Hid (∀ j, j < l.length → g j = false) := Lib.hid (fun j hj => HA.out j (by omega))
      go_wp2
      go_ret
      exact ⟨_, rfl, .inl ⟨rfl, HN.out⟩, hb⟩

set_option maxHeartbeats 1000000 in
theorem ctn_v2 (v : Value) (l : List Int) (w : World) (h : Ints w v l) (g : Nat → Bool) (cap : Value)
    (hg : ∀ w', Below w.heap.size w w' → ∀ j, j < l.length → Calls Tryz.prog 45 #[.int .i64 (ix l j), cap] w' fun e w'' => e = .returned (.bool (g j)) ∧ Below w'.heap.size w' w'') :
    Calls Tryz.prog 44 #[v, .func (.func 45) #[] #[cap]] w fun e w' => e = .returned (.bool (anyR l.length g)) ∧ Below w.heap.size w w' := by
  have HI := Lib.hid (idx_v2 v l w h g cap hg)
  obtain ⟨a1, c1, rfl, -⟩ := h.form
  clear h hg
  go_enter Tryz.func44, Tryz.ntmps44
  go_wp2_with (go_at_call 72; refine (HI.out).mono ?_; rintro e w1 ⟨r, rfl, hr, hb1⟩; have HR := Lib.hid hr; clear hr)
  go_ret
  exact ⟨ret_bool HR.out.any, hb1⟩

/-- What loops.Valid answers. -/
def validC (p : GP) (S : List Int) (c : PBC) : Bool := decide (validE p = 0) && (setB' p.n S && (pbV c && (decide (c.bound = 1) && (anyR S.length (fun j => inB c.lits (-(ix S j))) && allExcV p S c.lits))))

theorem setB_pos {n : Int} {S : List Int} (h : setB' n S = true) {j : Nat} (hj : j < S.length) : 1 ≤ ix S j ∧ ix S j ≤ n := by
  unfold setB' at h
  rw [Bool.and_eq_true] at h
  have := allR_get h.1 j hj
  unfold setTo at this
  simp only [Bool.and_eq_true, decide_eq_true_eq] at this
  exact this.1

set_option maxHeartbeats 4000000 in
set_option maxRecDepth 100000 in
theorem lval_any (vp vset vc : Value) (p : GP) (S : List Int) (c : PBC) (w : World) (hP : ProgIs w vp p) (hS : Ints w vset S) (hC : PBIs w vc c) :
    Calls Tryz.prog 14 #[vp, vset, vc] w fun e w' => e = .returned (.bool (validC p S c)) ∧ Below w.heap.size w w' := by
  have hP0 := hP
  have hC0 := hC
  obtain ⟨vn, vs, vr, vm, rfl, hPS⟩ := hP
  obtain ⟨a1, c1, rfl, -, hl1, -, -⟩ := hPS.rules.form
  obtain ⟨a4, c4, rfl, -, hl4, -, -⟩ := hS.form
  obtain ⟨vl, vk, rfl, hL, hK, hbd⟩ := hC
  obtain ⟨a5, c5, rfl, -⟩ := hL.form
  obtain ⟨a6, c6, rfl, -⟩ := hK.form
  have hal : Below w.heap.size w ((w.alloc (.cells #[.int .i64 p.n, vn, vs, .slice a1 p.rules.length c1, vm] 27)).alloc (.cells #[.slice a5 c.lits.length c5, .slice a6 c.coefs.length c6, .int .i64 c.bound] 30)) := bal (bal (Below.refl _ _) _) _
  have hb1 := (Blk.new w [.int .i64 p.n, vn, vs, .slice a1 p.rules.length c1, vm] 27).alloc (.cells #[.slice a5 c.lits.length c5, .slice a6 c.coefs.length c6, .int .i64 c.bound] 30)
  have hb2 := Blk.new2 w (.cells #[.int .i64 p.n, vn, vs, .slice a1 p.rules.length c1, vm] 27) [.slice a5 c.lits.length c5, .slice a6 c.coefs.length c6, .int .i64 c.bound] 30
  have HP := Lib.hid (hP0.below hal)
  have HS := Lib.hid (hS.below hal)
  have HC := Lib.hid (hC0.below hal)
  have HU : Hid (InV _ (w.heap.size + 1) c.lits) := Lib.hid ⟨_, _, _, hb2, hL.below hal⟩
  have HAL := Lib.hid hal
  have HBK := Lib.hid hb1
  have HBC := Lib.hid hb2
  unfold InI at hbd
  clear hP0 hPS hS hC0 hL hK hal hb1 hb2
  go_enter Tryz.func14, Tryz.ntmps14
  go_upto_region 1 with fail
  have kx := HBK.out.cell
  have kc := HBC.out.cell
  generalize (w.alloc (.cells #[.int .i64 p.n, vn, vs, .slice a1 p.rules.length c1, vm] 27)).alloc (.cells #[.slice a5 c.lits.length c5, .slice a6 c.coefs.length c6, .int .i64 c.bound] 30) = W at *
  have HF : Hid (validC p S c = (decide (validE p = 0) && (setB' p.n S && (pbV c && (decide (c.bound = 1) && (anyR S.length (fun j => inB c.lits (-(ix S j))) && allExcV p S c.lits)))))) := Lib.hid rfl
  by_cases hv : validE p = 0
  · have HV := Lib.hid hv
    have HOK : Hid (∀ k, k < p.rules.length → SUok (supAt p S k)) := Lib.hid (fun k hk => supAt_ok hv S hk)
    have HN : Hid (p.n ≤ 1000000) := Lib.hid (by have := (validP hv).n; omega)
    rw [decide_eq_true hv, Bool.true_and] at HF
    clear hv
    cases h2 : setB' p.n S with
    | false =>
      rw [h2, Bool.false_and] at HF
      have HI := Lib.hid h2
      clear h2
      go_wp2_with (first | (go_at_call 17; (with_reducible refine (valid_any _ p W HP.out).mono ?_); rintro e w1 ⟨he, hb1⟩; rw [HV.out] at he; subst he; have HB1 := Lib.hid hb1; have kx1 := fun o => (bcell hb1 _ o HBK.out.lt).trans (HBK.out.cell o); have kc1 := fun o => (bcell hb1 _ o HBC.out.lt).trans (HBC.out.cell o); clear hb1) | (go_at_call 36; (with_reducible refine (isSet_any _ _ p S _ (HP.out.below HB1.out) (HS.out.below HB1.out)).mono ?_); rintro e w2 ⟨he, hb2⟩; rw [HI.out] at he; subst he; have HB2 := Lib.hid (bon HB1.out hb2); have kx2 := fun o => (bcell HB2.out _ o HBK.out.lt).trans (HBK.out.cell o); have kc2 := fun o => (bcell HB2.out _ o HBC.out.lt).trans (HBC.out.cell o); clear hb2))
      go_ret
      exact ⟨ret_bool HF.out.symm, HAL.out.trans (HB2.out.mono HAL.out.size)⟩
    | true =>
      rw [h2, Bool.true_and] at HF
      have HI := Lib.hid h2
      clear h2
      cases h3 : pbV c with
      | false =>
        rw [h3, Bool.false_and] at HF
        have HPV := Lib.hid h3
        clear h3
        go_wp2_with (first | (go_at_call 17; (with_reducible refine (valid_any _ p W HP.out).mono ?_); rintro e w1 ⟨he, hb1⟩; rw [HV.out] at he; subst he; have HB1 := Lib.hid hb1; have kx1 := fun o => (bcell hb1 _ o HBK.out.lt).trans (HBK.out.cell o); have kc1 := fun o => (bcell hb1 _ o HBC.out.lt).trans (HBC.out.cell o); clear hb1) | (go_at_call 36; (with_reducible refine (isSet_any _ _ p S _ (HP.out.below HB1.out) (HS.out.below HB1.out)).mono ?_); rintro e w2 ⟨he, hb2⟩; rw [HI.out] at he; subst he; have HB2 := Lib.hid (bon HB1.out hb2); have kx2 := fun o => (bcell HB2.out _ o HBK.out.lt).trans (HBK.out.cell o); have kc2 := fun o => (bcell HB2.out _ o HBC.out.lt).trans (HBC.out.cell o); clear hb2) | (go_at_call 18; (with_reducible refine (pbValid_any _ c _ (HC.out.below HB2.out)).mono ?_); rintro e w3 ⟨he, hb3⟩; rw [HPV.out] at he; subst he; have HB3 := Lib.hid (bon HB2.out hb3); have kx3 := fun o => (bcell HB3.out _ o HBK.out.lt).trans (HBK.out.cell o); have kc3 := fun o => (bcell HB3.out _ o HBC.out.lt).trans (HBC.out.cell o); clear hb3))
        go_ret
        exact ⟨ret_bool HF.out.symm, HAL.out.trans (HB3.out.mono HAL.out.size)⟩
      | true =>
        rw [h3, Bool.true_and] at HF
        have HPV := Lib.hid h3
        clear h3
        by_cases h4 : c.bound = 1
        · rw [decide_eq_true h4, Bool.true_and] at HF
          have hbe : (c.bound != 1) = false := by simp [h4]
          have HB4E := Lib.hid h4
          clear h4
          go_upto_region 4 with (first | (go_at_call 17; (with_reducible refine (valid_any _ p W HP.out).mono ?_); rintro e w1 ⟨he, hb1⟩; rw [HV.out] at he; subst he; have HB1 := Lib.hid hb1; have kx1 := fun o => (bcell hb1 _ o HBK.out.lt).trans (HBK.out.cell o); have kc1 := fun o => (bcell hb1 _ o HBC.out.lt).trans (HBC.out.cell o); clear hb1) | (go_at_call 36; (with_reducible refine (isSet_any _ _ p S _ (HP.out.below HB1.out) (HS.out.below HB1.out)).mono ?_); rintro e w2 ⟨he, hb2⟩; rw [HI.out] at he; subst he; have HB2 := Lib.hid (bon HB1.out hb2); have kx2 := fun o => (bcell HB2.out _ o HBK.out.lt).trans (HBK.out.cell o); have kc2 := fun o => (bcell HB2.out _ o HBC.out.lt).trans (HBC.out.cell o); clear hb2) | (go_at_call 18; (with_reducible refine (pbValid_any _ c _ (HC.out.below HB2.out)).mono ?_); rintro e w3 ⟨he, hb3⟩; rw [HPV.out] at he; subst he; have HB3 := Lib.hid (bon HB2.out hb3); have kx3 := fun o => (bcell HB3.out _ o HBK.out.lt).trans (HBK.out.cell o); have kc3 := fun o => (bcell HB3.out _ o HBC.out.lt).trans (HBC.out.cell o); clear hb3))
          have hal5 := bal (Below.refl w3.heap.size w3) (.cells #[.func (.func 43) #[] #[.pointer (some ⟨w.heap.size + 1, 0, none⟩)]] 77)
          have HF5 := Lib.hid (Blk.new w3 [.func (.func 43) #[] #[.pointer (some ⟨w.heap.size + 1, 0, none⟩)]] 77)
          have HB5 := Lib.hid (bon HB3.out hal5)
          have kf5 := HF5.out.cell
          have kx5 := fun o => (bcell HB5.out _ o HBK.out.lt).trans (HBK.out.cell o)
          have hz3 := HB3.out.size
          have HZ3 := Lib.hid hz3
          clear hal5 hz3 kx1 kx2 kx3 kc1 kc2 kc3 kx kc
          generalize w3.alloc (.cells #[.func (.func 43) #[] #[.pointer (some ⟨w.heap.size + 1, 0, none⟩)]] 77) = W5 at *
          have HCT : Hid (Calls Tryz.prog 44 #[.slice a4 S.length c4, .func (.func 45) #[] #[.pointer (some ⟨w3.heap.size, 0, none⟩)]] W5 fun e w' => e = .returned (.bool (anyR S.length (fun j => inB c.lits (-(ix S j))))) ∧ Below W5.heap.size W5 w') := Lib.hid (ctn_v2 _ S W5 (HS.out.below HB5.out) (fun j => inB c.lits (-(ix S j))) _ (fun w' hb' j hj => (v2_any (ix S j) w3.heap.size (w.heap.size + 1) c.lits w' (HF5.out.below hb') (HU.out.below (bon HB5.out hb')) (by have := setB_pos HI.out hj; have := HN.out; omega)).mono fun e w'' ⟨e1, e2⟩ => ⟨e1, e2 ▸ Below.refl _ _⟩))
          cases h6 : anyR S.length (fun j => inB c.lits (-(ix S j))) with
          | false =>
            rw [h6] at HCT
            rw [h6, Bool.false_and] at HF
            clear h6
            go_wp2_with (go_at_call 44; (with_reducible refine (HCT.out).mono ?_); rintro e w6 ⟨rfl, hb6⟩; have HB6 := Lib.hid (bon HB5.out hb6); clear hb6)
            go_ret
            exact ⟨ret_bool HF.out.symm, HAL.out.trans (HB6.out.mono HAL.out.size)⟩
          | true =>
            rw [h6] at HCT
            rw [h6, Bool.true_and] at HF
            clear h6
            go_wp2_with (first
              | (go_at_call 37; (with_reducible refine (all_anyV p S c.lits _ _ _ _ (HP.out.below HB6.out) (HS.out.below HB6.out) (HU.out.below HB6.out) HOK.out).mono ?_); rintro e w7 ⟨rfl, hb7⟩; have HB7 := Lib.hid (bon HB6.out hb7); clear hb7)
              | (go_at_call 44; (with_reducible refine (HCT.out).mono ?_); rintro e w6 ⟨rfl, hb6⟩; have HB6 := Lib.hid (bon HB5.out hb6); have kx6 := fun o => (bcell HB6.out _ o HBK.out.lt).trans (HBK.out.cell o); have kf6 := (HF5.out.below hb6).cell; clear hb6))
            go_ret
            exact ⟨ret_bool HF.out.symm, HAL.out.trans (HB7.out.mono HAL.out.size)⟩
        · rw [decide_eq_false h4, Bool.false_and] at HF
          have hbe : (c.bound != 1) = true := by simp [h4]
          clear h4
          go_wp2_with (first | (go_at_call 17; (with_reducible refine (valid_any _ p W HP.out).mono ?_); rintro e w1 ⟨he, hb1⟩; rw [HV.out] at he; subst he; have HB1 := Lib.hid hb1; have kx1 := fun o => (bcell hb1 _ o HBK.out.lt).trans (HBK.out.cell o); have kc1 := fun o => (bcell hb1 _ o HBC.out.lt).trans (HBC.out.cell o); clear hb1) | (go_at_call 36; (with_reducible refine (isSet_any _ _ p S _ (HP.out.below HB1.out) (HS.out.below HB1.out)).mono ?_); rintro e w2 ⟨he, hb2⟩; rw [HI.out] at he; subst he; have HB2 := Lib.hid (bon HB1.out hb2); have kx2 := fun o => (bcell HB2.out _ o HBK.out.lt).trans (HBK.out.cell o); have kc2 := fun o => (bcell HB2.out _ o HBC.out.lt).trans (HBC.out.cell o); clear hb2) | (go_at_call 18; (with_reducible refine (pbValid_any _ c _ (HC.out.below HB2.out)).mono ?_); rintro e w3 ⟨he, hb3⟩; rw [HPV.out] at he; subst he; have HB3 := Lib.hid (bon HB2.out hb3); have kx3 := fun o => (bcell HB3.out _ o HBK.out.lt).trans (HBK.out.cell o); have kc3 := fun o => (bcell HB3.out _ o HBC.out.lt).trans (HBC.out.cell o); clear hb3))
          go_ret
          exact ⟨ret_bool HF.out.symm, HAL.out.trans (HB3.out.mono HAL.out.size)⟩
  · rw [decide_eq_false hv, Bool.false_and] at HF
    go_wp2_with (go_at_call 17; (with_reducible refine (valid_any _ p W HP.out).mono ?_); rintro e w1 ⟨rfl, hb1⟩; have HB1 := Lib.hid hb1; clear hb1)
    go_ret
    exact ⟨ret_bool HF.out.symm, HAL.out.trans (HB1.out.mono HAL.out.size)⟩

end Go.Proofs.YthclpkhaenaknaaGreatDoor

/- loops.Make: what it computes (plain). -/
namespace Go.Proofs.YthclpkhaenaknaaGreatDoor

/-- The reasons, behind the body's variable and the first false literal. -/
def reas2 (u : SU) (a : List Int) : List Int :=
  match (oth u).find? (fun h => offB a (-h)) with
  | some h => [-h]
  | none => u.r.body.filter (fun l => !(intB u.S l || !offB a l))

def reas1 (u : SU) (a : List Int) : List Int :=
  if u.r.sum then reas2 u a
  else match u.r.body.find? (fun l => offB a l) with
    | some l => [l]
    | none => reas2 u a

def reasP (u : SU) (a : List Int) : List Int :=
  if impB u then [] else if offB a u.b then [u.b] else reas1 u a

def reasAll (a : List Int) (l : List SU) : List Int := l.flatMap (fun u => reasP u a)

theorem reasAll_snoc (a : List Int) (l : List SU) (u : SU) : reasAll a (l ++ [u]) = reasAll a l ++ reasP u a := by simp [reasAll]

def makeP (p : GP) (a S : List Int) (u : Int) : PBC × Int :=
  if unfB p a S && decide (u ∈ S) then clauseP ([-u] ++ reasAll a (supsTo p S p.rules.length)) else (⟨[], [], 0⟩, 2)

end Go.Proofs.YthclpkhaenaknaaGreatDoor

/- Library contracts at this program (printed by the kit's lay-shelf and lay-plain; wip/shelf.py). -/
namespace Go.Proofs.YthclpkhaenaknaaGreatDoor
open Go.Shelf
def Tryz.lays169_ren : Go.Shelf.Ren := ⟨fun | 169 => 65 | n => n, fun | 70 => 96 | 9 => 9 | 0 => 0 | 72 => 99 | 37 => 97 | 127 => 123 | 3 => 3 | 5 => 5 | n => n, fun | n => n⟩
theorem Tryz.lays169 : Go.Proofs.Lays.n169 Tryz.prog Tryz.lays169_ren := {
  mixed := by kernel_rfl
  f169 := Tryz.func65.trans (congrArg some (by kernel_rfl))
  t0 := Tryz.underlying0
  a0 := Tryz.isAgg0
  z0 := Tryz.sizeOf0
  v0 := Tryz.zeroValue0
  t3 := Tryz.underlying3
  a3 := Tryz.isAgg3
  z3 := Tryz.sizeOf3
  v3 := Tryz.zeroValue3
  t9 := Tryz.underlying9
  a9 := Tryz.isAgg9
  z9 := Tryz.sizeOf9
  v9 := Tryz.zeroValue9
  t37 := Tryz.underlying97
  a37 := Tryz.isAgg97
  z37 := Tryz.sizeOf97
  v37 := Tryz.zeroValue97
  t70 := Tryz.underlying96
  a70 := Tryz.isAgg96
  z70 := Tryz.sizeOf96
  v70 := Tryz.zeroValue96
  t72 := Tryz.underlying99
  a72 := Tryz.isAgg99
  z72 := Tryz.sizeOf99
  v72 := Tryz.zeroValue99
  t127 := Tryz.underlying123
  a127 := Tryz.isAgg123
  z127 := Tryz.sizeOf123
  v127 := Tryz.zeroValue123 }
theorem Tryz.Builder_Extra_169 : Builder.Extra Tryz.prog Tryz.lays169_ren := {
  sizeBuilder := by kernel_rfl
  liesBuilder := by kernel_rfl
  t5 := Tryz.underlying5
  a5 := Tryz.isAgg5
  z5 := Tryz.sizeOf5
  v5 := Tryz.zeroValue5
  infoByte := by kernel_rfl
  cellsByte := by kernel_rfl
  sizeByte := by kernel_rfl
  neB5 := by decide }
open Go.RowKit in
theorem Tryz.Builder_String_any_k (B b : Nat) (l : List UInt8) (w : World) (h : Lib.IsBuilderF 99 5 B b (Lib.byteCells l) w) (hBw : B ≤ w.heap.size) :
    Calls Tryz.prog 65 #[.pointer (some ⟨b, 0, none⟩)] w fun e w' => e = .returned (.string ⟨l.toArray⟩) ∧ (Lib.IsBuilderF 99 5 B b (Lib.byteCells l) w' ∧ Below B w w' ∧ Lib.OthersKept 5 (some b) w w') := Any.Builder_String_any_k Tryz.lays169 Tryz.Builder_Extra_169 B b l w h hBw
def Tryz.lays171_ren : Go.Shelf.Ren := ⟨fun | 171 => 64 | 243 => 103 | 246 => 126 | 283 => 142 | 284 => 143 | 285 => 144 | 286 => 145 | 129 => 141 | 317 => 155 | 318 => 156 | 319 => 157 | 320 => 158 | 337 => 162 | 338 => 163 | n => n, fun | 3 => 3 | 9 => 9 | 2 => 2 | 4 => 4 | 171 => 151 | 0 => 0 | 53 => 150 | 37 => 97 | 5 => 5 | 173 => 153 | 212 => 163 | 51 => 148 | 20 => 20 | 213 => 164 | 46 => 48 | 232 => 170 | 233 => 171 | n => n, fun | 17 => 1 | 18 => 2 | 19 => 3 | n => n⟩
theorem Tryz.lays171 : Go.Proofs.Lays.n171 Tryz.prog Tryz.lays171_ren := {
  mixed := by kernel_rfl
  f129 := Tryz.func141.trans (congrArg some (by kernel_rfl))
  f171 := Tryz.func64.trans (congrArg some (by kernel_rfl))
  f243 := Tryz.func103.trans (congrArg some (by kernel_rfl))
  f246 := Tryz.func126.trans (congrArg some (by kernel_rfl))
  f283 := Tryz.func142.trans (congrArg some (by kernel_rfl))
  f284 := Tryz.func143.trans (congrArg some (by kernel_rfl))
  f285 := Tryz.func144.trans (congrArg some (by kernel_rfl))
  f286 := Tryz.func145.trans (congrArg some (by kernel_rfl))
  f317 := Tryz.func155.trans (congrArg some (by kernel_rfl))
  f318 := Tryz.func156.trans (congrArg some (by kernel_rfl))
  f319 := Tryz.func157.trans (congrArg some (by kernel_rfl))
  f320 := Tryz.func158.trans (congrArg some (by kernel_rfl))
  f337 := Tryz.func162.trans (congrArg some (by kernel_rfl))
  f338 := Tryz.func163.trans (congrArg some (by kernel_rfl))
  t0 := Tryz.underlying0
  a0 := Tryz.isAgg0
  z0 := Tryz.sizeOf0
  v0 := Tryz.zeroValue0
  t2 := Tryz.underlying2
  a2 := Tryz.isAgg2
  z2 := Tryz.sizeOf2
  v2 := Tryz.zeroValue2
  t3 := Tryz.underlying3
  a3 := Tryz.isAgg3
  z3 := Tryz.sizeOf3
  v3 := Tryz.zeroValue3
  t4 := Tryz.underlying4
  a4 := Tryz.isAgg4
  z4 := Tryz.sizeOf4
  v4 := Tryz.zeroValue4
  t5 := Tryz.underlying5
  a5 := Tryz.isAgg5
  z5 := Tryz.sizeOf5
  v5 := Tryz.zeroValue5
  t9 := Tryz.underlying9
  a9 := Tryz.isAgg9
  z9 := Tryz.sizeOf9
  v9 := Tryz.zeroValue9
  t20 := Tryz.underlying20
  a20 := Tryz.isAgg20
  z20 := Tryz.sizeOf20
  v20 := Tryz.zeroValue20
  t37 := Tryz.underlying97
  a37 := Tryz.isAgg97
  z37 := Tryz.sizeOf97
  v37 := Tryz.zeroValue97
  t46 := Tryz.underlying48
  a46 := Tryz.isAgg48
  z46 := Tryz.sizeOf48
  v46 := Tryz.zeroValue48
  t51 := Tryz.underlying148
  a51 := Tryz.isAgg148
  z51 := Tryz.sizeOf148
  v51 := Tryz.zeroValue148
  t53 := Tryz.underlying150
  a53 := Tryz.isAgg150
  z53 := Tryz.sizeOf150
  v53 := Tryz.zeroValue150
  t171 := Tryz.underlying151
  a171 := Tryz.isAgg151
  z171 := Tryz.sizeOf151
  v171 := Tryz.zeroValue151
  t173 := Tryz.underlying153
  a173 := Tryz.isAgg153
  z173 := Tryz.sizeOf153
  v173 := Tryz.zeroValue153
  t212 := Tryz.underlying163
  a212 := Tryz.isAgg163
  z212 := Tryz.sizeOf163
  v212 := Tryz.zeroValue163
  t213 := Tryz.underlying164
  a213 := Tryz.isAgg164
  z213 := Tryz.sizeOf164
  t232 := Tryz.underlying170
  a232 := Tryz.isAgg170
  z232 := Tryz.sizeOf170
  v232 := Tryz.zeroValue170
  t233 := Tryz.underlying171
  a233 := Tryz.isAgg171
  z233 := Tryz.sizeOf171
  v233 := Tryz.zeroValue171
  g17 := by kernel_rfl
  g18 := by kernel_rfl
  g19 := by kernel_rfl }
open Go.RowKit Go.Sort Go.Lib in
theorem Tryz.strconv_Itoa_small (i : Nat) (hi : i < 100) (w : World) :
    Calls Tryz.prog 64 #[.int .i64 i] w fun e w' => e = .returned (.string ⟨(Lib.decDigits i).toArray⟩) ∧ w' = w := Any.strconv_Itoa_small Tryz.lays171 i hi w
def Tryz.lays189_ren : Go.Shelf.Ren := ⟨fun | 189 => 100 | 125 => 124 | 257 => 123 | 128 => 140 | 129 => 141 | 294 => 131 | 295 => 132 | 296 => 133 | 297 => 134 | 298 => 135 | 299 => 136 | 216 => 137 | 300 => 138 | 301 => 139 | 328 => 150 | 329 => 151 | 330 => 152 | 331 => 153 | 332 => 154 | 215 => 130 | 343 => 161 | n => n, fun | 28 => 23 | 3 => 3 | 46 => 48 | 0 => 0 | 51 => 148 | 53 => 150 | 4 => 4 | 183 => 141 | 182 => 140 | 131 => 145 | 5 => 5 | 9 => 9 | 218 => 156 | 222 => 160 | 228 => 167 | 229 => 168 | n => n, fun | n => n⟩
theorem Tryz.lays189 : Go.Proofs.Lays.n189 Tryz.prog Tryz.lays189_ren := {
  mixed := by kernel_rfl
  f125 := Tryz.func124.trans (congrArg some (by kernel_rfl))
  f128 := Tryz.func140.trans (congrArg some (by kernel_rfl))
  f129 := Tryz.func141.trans (congrArg some (by kernel_rfl))
  f189 := Tryz.func100.trans (congrArg some (by kernel_rfl))
  f215 := Tryz.func130.trans (congrArg some (by kernel_rfl))
  f216 := Tryz.func137.trans (congrArg some (by kernel_rfl))
  f257 := Tryz.func123.trans (congrArg some (by kernel_rfl))
  f294 := Tryz.func131.trans (congrArg some (by kernel_rfl))
  f295 := Tryz.func132.trans (congrArg some (by kernel_rfl))
  f296 := Tryz.func133.trans (congrArg some (by kernel_rfl))
  f297 := Tryz.func134.trans (congrArg some (by kernel_rfl))
  f298 := Tryz.func135.trans (congrArg some (by kernel_rfl))
  f299 := Tryz.func136.trans (congrArg some (by kernel_rfl))
  f300 := Tryz.func138.trans (congrArg some (by kernel_rfl))
  f301 := Tryz.func139.trans (congrArg some (by kernel_rfl))
  f328 := Tryz.func150.trans (congrArg some (by kernel_rfl))
  f329 := Tryz.func151.trans (congrArg some (by kernel_rfl))
  f330 := Tryz.func152.trans (congrArg some (by kernel_rfl))
  f331 := Tryz.func153.trans (congrArg some (by kernel_rfl))
  f332 := Tryz.func154.trans (congrArg some (by kernel_rfl))
  f343 := Tryz.func161.trans (congrArg some (by kernel_rfl))
  t0 := Tryz.underlying0
  a0 := Tryz.isAgg0
  z0 := Tryz.sizeOf0
  v0 := Tryz.zeroValue0
  t3 := Tryz.underlying3
  a3 := Tryz.isAgg3
  z3 := Tryz.sizeOf3
  v3 := Tryz.zeroValue3
  t4 := Tryz.underlying4
  a4 := Tryz.isAgg4
  z4 := Tryz.sizeOf4
  v4 := Tryz.zeroValue4
  t5 := Tryz.underlying5
  a5 := Tryz.isAgg5
  z5 := Tryz.sizeOf5
  v5 := Tryz.zeroValue5
  t9 := Tryz.underlying9
  a9 := Tryz.isAgg9
  z9 := Tryz.sizeOf9
  v9 := Tryz.zeroValue9
  t28 := Tryz.underlying23
  a28 := Tryz.isAgg23
  z28 := Tryz.sizeOf23
  v28 := Tryz.zeroValue23
  t46 := Tryz.underlying48
  a46 := Tryz.isAgg48
  z46 := Tryz.sizeOf48
  v46 := Tryz.zeroValue48
  t51 := Tryz.underlying148
  a51 := Tryz.isAgg148
  z51 := Tryz.sizeOf148
  v51 := Tryz.zeroValue148
  t53 := Tryz.underlying150
  a53 := Tryz.isAgg150
  z53 := Tryz.sizeOf150
  v53 := Tryz.zeroValue150
  t131 := Tryz.underlying145
  a131 := Tryz.isAgg145
  z131 := Tryz.sizeOf145
  v131 := Tryz.zeroValue145
  t182 := Tryz.underlying140
  a182 := Tryz.isAgg140
  z182 := Tryz.sizeOf140
  v182 := Tryz.zeroValue140
  t183 := Tryz.underlying141
  a183 := Tryz.isAgg141
  z183 := Tryz.sizeOf141
  v183 := Tryz.zeroValue141
  t218 := Tryz.underlying156
  a218 := Tryz.isAgg156
  z218 := Tryz.sizeOf156
  v218 := Tryz.zeroValue156
  t222 := Tryz.underlying160
  a222 := Tryz.isAgg160
  z222 := Tryz.sizeOf160
  v222 := Tryz.zeroValue160
  t228 := Tryz.underlying167
  a228 := Tryz.isAgg167
  z228 := Tryz.sizeOf167
  v228 := Tryz.zeroValue167
  t229 := Tryz.underlying168
  a229 := Tryz.isAgg168
  z229 := Tryz.sizeOf168
  v229 := Tryz.zeroValue168 }
open Go.Sort Go.RowKit in
theorem Tryz.slices_Sort_int (blk off cap : Nat) (zs : List Int) (w : World) (hH : Holds (Value.int .i64) w blk off zs.toArray) (hblk : blk < w.heap.size) (hsz : zs.length < 4611686018427387904) :
    Calls Tryz.prog 100 #[.slice (some ⟨blk, off, none⟩) zs.length cap] w fun e w' =>
      e = .returned (.tuple #[]) ∧ ∃ n os, w' = grow (putRow (Value.int .i64) (Sort.ahead w n) blk off (zs.mergeSort fun x y => decide (x ≤ y)).toArray) os := Any.slices_Sort_int Tryz.lays189 blk off cap zs w hH hblk hsz
def Tryz.laysNm220_ren : Go.Shelf.Ren := ⟨fun | 20 => 54 | n => n, fun | 22 => 23 | 3 => 3 | 4 => 4 | 0 => 0 | n => n, fun | n => n⟩
theorem Tryz.laysNm220 : Go.Proofs.Lays2.n20 Tryz.prog Tryz.laysNm220_ren := {
  mixed := by kernel_rfl
  f20 := Tryz.func54.trans (congrArg some (by kernel_rfl))
  t0 := Tryz.underlying0
  a0 := Tryz.isAgg0
  z0 := Tryz.sizeOf0
  v0 := Tryz.zeroValue0
  t3 := Tryz.underlying3
  a3 := Tryz.isAgg3
  z3 := Tryz.sizeOf3
  v3 := Tryz.zeroValue3
  t4 := Tryz.underlying4
  a4 := Tryz.isAgg4
  z4 := Tryz.sizeOf4
  v4 := Tryz.zeroValue4
  t22 := Tryz.underlying23
  a22 := Tryz.isAgg23
  z22 := Tryz.sizeOf23
  v22 := Tryz.zeroValue23
  i3 := by kernel_rfl }
open Go.RowKit Go.Lib Go.Sort in
theorem Tryz.slices_Compact_int (blk off cap : Nat) (zs : List Int) (w : World) (hH : Holds (Value.int .i64) w blk off zs.toArray) (hsz : zs.length ≤ 9223372036854775807) (hcap : zs.length ≤ cap) :
    Calls Tryz.prog 54 #[.slice (some ⟨blk, off, none⟩) zs.length cap] w fun e w' => e = .returned (.slice (some ⟨blk, off, none⟩) (Lib.compact zs).length cap) ∧ ∃ q, w' = putRow (Value.int .i64) (Sort.ahead w q) blk off (Lib.compact zs ++ List.replicate (zs.length - (Lib.compact zs).length) 0).toArray := Any.slices_Compact_int Tryz.laysNm220 blk off cap zs w hH hsz hcap
open Go.RowKit Go.Lib Go.Sort in
theorem Tryz.slices_Compact_int_empty (a : Option Addr) (cap : Nat) (w : World) :
    Calls Tryz.prog 54 #[.slice a 0 cap] w fun e w' => e = .returned (.slice a 0 cap) ∧ w' = w := Any.slices_Compact_int_empty Tryz.laysNm220 a cap w
open Go.RowKit Go.Sort in
theorem Tryz.slices_Sort_int_none (p : Option Addr) (cap : Nat) (w : World) :
    Calls Tryz.prog 100 #[.slice p 0 cap] w fun e w' => e = .returned (.tuple #[]) ∧ w' = w := Any.slices_Sort_int_none Tryz.lays189 p cap w
end Go.Proofs.YthclpkhaenaknaaGreatDoor

/- strings.Builder: copyCheck, WriteString (a builder of the call's own). -/
namespace Go.Proofs.YthclpkhaenaknaaGreatDoor
open Go.RowKit

abbrev BAt (B b : Nat) (p : Value) (bs : List Value) (w : World) : Prop := Lib.BuilderAtF 99 5 B b p bs w
abbrev IsB (B b : Nat) (bs : List Value) (w : World) : Prop := Lib.IsBuilderF 99 5 B b bs w

theorem infoB : (Tryz.prog.info? 5).map (fun i => (i.zero, i.size, i.bytes)) = some (some (.int .u8 0), 1, 1) := by kernel_rfl
theorem sizeB : (Tryz.prog.info? 99).map (·.size) = some 2 := by kernel_rfl

set_option maxHeartbeats 1000000 in
set_option maxRecDepth 100000 in
theorem cc_fresh (b : Nat) (w : World) (h0 : w.cell? ⟨b, 0, none⟩ = some (.pointer none)) (hsh : w.shape? b = some (99, 2)) (hfz : w.frozen? ⟨b, 0, none⟩ = false) :
    Calls Tryz.prog 102 #[.pointer (some ⟨b, 0, none⟩)] w fun e w' => e = .returned (.tuple #[]) ∧ w' = w.setCell ⟨b, 0, none⟩ (.pointer (some ⟨b, 0, none⟩)) := by
  obtain ⟨j, hj, hjs⟩ := Option.map_eq_some_iff.1 sizeB
  go_enter Tryz.func102, Tryz.ntmps102
  go_wp2
  rw [Lib.run_to_unsafe w ⟨b, 0, none⟩ Tryz.underlying96 Tryz.underlying135 hj (by rw [hjs]; decide) hsh (Nat.zero_lt_succ 1)]
  simp only [Result.andThen]
  rw [Oper.upon_value]
  go_wp2
  rw [run_callFunc_extern Tryz.func125 (by kernel_rfl) (by kernel_rfl) (by kernel_rfl) (e := Extern.AbiNoEscape.same) (by kernel_rfl)]
  rw [Lib.run_noEscape]
  simp only [Result.andThen]
  rw [Oper.upon_value]
  go_wp2
  rw [Lib.run_from_unsafe w ⟨b, 0, none⟩ Tryz.underlying135 Tryz.underlying96 hj hsh Tryz.Builder_Extra_169.toX72.liesBuilder]
  simp only [Result.andThen]
  rw [Oper.upon_value]
  go_wp2
  go_end0
  exact ⟨rfl, rfl⟩

set_option maxHeartbeats 1000000 in
set_option maxRecDepth 100000 in
theorem cc_used (b : Nat) (w : World) (h0 : w.cell? ⟨b, 0, none⟩ = some (.pointer (some ⟨b, 0, none⟩))) :
    Calls Tryz.prog 102 #[.pointer (some ⟨b, 0, none⟩)] w fun e w' => e = .returned (.tuple #[]) ∧ w' = w := by
  obtain ⟨j, hj, _⟩ := Option.map_eq_some_iff.1 sizeB
  go_enter Tryz.func102, Tryz.ntmps102
  go_wp2
  rw [Lib.run_neq_ptr_same w _ Tryz.underlying96 hj]
  go_wp2
  go_end0
  exact ⟨rfl, rfl⟩

theorem cc_any (B b : Nat) (bs : List Value) (w : World) (h : IsB B b bs w) :
    Calls Tryz.prog 102 #[.pointer (some ⟨b, 0, none⟩)] w fun e w' => e = .returned (.tuple #[]) ∧ (BAt B b (.pointer (some ⟨b, 0, none⟩)) bs w' ∧ Below B w w' ∧ Lib.OthersKept 5 (some b) w w') := by
  rcases h with h | h
  · refine (cc_fresh b w h.cell0 h.shape h.frozen0).mono ?_
    rintro e w' ⟨rfl, rfl⟩
    exact ⟨rfl, h.used _, (Below.refl B w).setCell (p := ⟨b, 0, none⟩) h.1 _, (Lib.OthersKept.refl _ _ w).setCell ⟨b, 0, none⟩ rfl _⟩
  · refine (cc_used b w h.cell0).mono ?_
    rintro e w' ⟨rfl, rfl⟩
    exact ⟨rfl, h, Below.refl B _, Lib.OthersKept.refl _ _ _⟩

set_option maxHeartbeats 2000000 in
set_option maxRecDepth 100000 in
theorem ws_any (B b : Nat) (bs : List Value) (s : ByteArray) (w : World) (h : IsB B b bs w) (hlen : bs.length + s.size ≤ 140737488355328) (hBw : B ≤ w.heap.size) :
    Calls Tryz.prog 63 #[.pointer (some ⟨b, 0, none⟩), .string s] w fun e w' => e = .returned (.tuple #[.int .i64 s.size, .nilIface]) ∧ (BAt B b (.pointer (some ⟨b, 0, none⟩)) (bs ++ Lib.strCells s) w' ∧ Below B w w' ∧ Lib.OthersKept 5 (some b) w w') := by
  obtain ⟨i0, hi, hz0, hz1, hz2⟩ := info_parts infoB
  go_enter Tryz.func63, Tryz.ntmps63
  go_wp2_with (go_at_call 102; refine (cc_any B b bs _ h).mono ?_)
  rintro e w1 ⟨rfl, h1, hb1, hk1⟩
  obtain ⟨hB, v, hbk, hown, hne⟩ := h1
  have c0 : w1.cell? ⟨b, 0, none⟩ = some (.pointer (some ⟨b, 0, none⟩)) := by rw [Lib.cell_of_heap hbk]; rfl
  have c1 : w1.cell? ⟨b, 1, none⟩ = some v := by rw [Lib.cell_of_heap hbk]; rfl
  go_wp2_with (at_builtin; refine Lib.wpList_append_own_stringF _ rfl _ _ 97 9 rfl B 5 i0 Tryz.underlying97 Tryz.underlying9 hi hz0 hz1 hz2 _ _ _ rfl hown s rfl ?c3 ?c4 ?c5 ?_)
  case c3 => unfold maxLen; omega
  case c4 => omega
  case c5 => have := hb1.size; omega
  intro v' w2 hown' hgrow _
  have hlt : b < w1.heap.size := (Array.getElem?_eq_some_iff.1 hbk).1
  have hb2 : w2.heap[b]? = some (.cells #[.pointer (some ⟨b, 0, none⟩), v] 99 (0, 0)) := by
    rw [hgrow.block b hlt (fun e => hne e.symm)]
    exact hbk
  have d0 : w2.cell? ⟨b, 0, none⟩ = some (.pointer (some ⟨b, 0, none⟩)) := by rw [Lib.cell_of_heap hb2]; rfl
  have d1 : w2.cell? ⟨b, 1, none⟩ = some v := by rw [Lib.cell_of_heap hb2]; rfl
  have f1 : w2.frozen? ⟨b, 1, none⟩ = false := Lib.frozen_of_heap hb2 1
  obtain ⟨ao, n', cap, rfl⟩ : ∃ ao n' cap, v' = .slice ao n' cap := by
    rcases hown'.2 with ⟨hv, _⟩ | ⟨g, cap, cur, fz, hv, _⟩
    · exact ⟨_, _, _, hv⟩
    · exact ⟨_, _, _, hv⟩
  go_wp2
  go_ret2
  refine ⟨rfl, ?_, ?_, (hk1.grown hgrow (Lib.ownsRowF_kind hown)).setCell ⟨b, 1, none⟩ rfl _⟩
  · exact Lib.BuilderAtF.put (T := 99) (e := 5) hB hb2 (bs' := bs ++ Lib.strCells s) (by simpa [Lib.strCells_length] using hown') (by decide)
  · exact (hb1.grown hgrow (by have := hb1.size; omega) (fun k hk => (hown.lt k hk).1)).setCell (p := ⟨b, 1, none⟩) hB _

end Go.Proofs.YthclpkhaenaknaaGreatDoor
