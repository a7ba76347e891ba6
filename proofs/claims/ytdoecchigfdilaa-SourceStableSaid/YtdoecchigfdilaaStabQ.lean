/- ostlerlaw33.SourceStable returns true and writes nothing that was there. -/
import Derived.Test.YtdoecchigfdilaaCutQ
import Derived.OpenShut
import Derived.Test.YtdoecchigfdilaaStb2Q
import Derived.Test.YtdoecchigfdilaaCm2Q
import Derived.Test.YtdoecchigfdilaaCm3Q
import Derived.Test.YtdoecchigfdilaaMD
import Derived.Test.YtdoecchigfdilaaMC
namespace Go.Proofs.Ytdoecchigfdilaa
open Go.RowKit

set_option maxHeartbeats 4000000 in
set_option maxRecDepth 100000 in
theorem stab_walk (v : Value) (p : GP) (bits : Int) (w : World) (h : ProgIs w v p) (hbi : 0 ≤ bits ∧ bits ≤ 255) :
    Calls Try.prog 4 #[v, .int .u8 bits] w fun e w' => e = .returned (.bool true) ∧ Below w.heap.size w w' := by
  have h0 := h
  obtain ⟨vn, vs, vr, vm, rfl, hn, hnames, hshown, hrules, hmin⟩ := h
  obtain ⟨a0, c0, rfl, -, hl0, -⟩ := hnames.form
  obtain ⟨a1, c1, rfl, -, hl1, -, hcellR⟩ := hrules.form
  obtain ⟨a3, c3, rfl, -⟩ := hshown.form
  obtain ⟨a4, c4, rfl, -⟩ := hmin.form
  have hal := bal (Below.refl w.heap.size w) (.cells #[.int .i64 p.n, .slice a0 p.names.length c0, .slice a3 p.shown.length c3, .slice a1 p.rules.length c1, .slice a4 p.min.length c4] 27)
  have HP := Lib.hid (h0.below hal)
  have HP0 := Lib.hid h0
  have HCR := Lib.hid hcellR
  have HR := Lib.hid hrules
  have hbk : Blk (w.alloc (.cells #[.int .i64 p.n, .slice a0 p.names.length c0, .slice a3 p.shown.length c3, .slice a1 p.rules.length c1, .slice a4 p.min.length c4] 27)) w.heap.size [.int .i64 p.n, .slice a0 p.names.length c0, .slice a3 p.shown.length c3, .slice a1 p.rules.length c1, .slice a4 p.min.length c4] 27 := Blk.new w _ _
  have HBK := Lib.hid hbk
  clear hbk hnames hshown hmin h0 hcellR hrules
  cases hfew : fewB p with
  | false =>
    go_enter Try.func4, Try.ntmps4
    go_wp2_with (first | (go_at_call 5; (with_reducible refine (few_any _ p _ HP.out).mono ?_); rintro e w1 ⟨h1, hb1⟩; rw [hfew] at h1; subst h1; have hc1 := bcell hb1; have HW1 := Lib.hid (bon hal hb1); have hz1 : w.heap.size < w1.heap.size := (by have := hb1.size; simp at this; omega)) | (go_at_call 7; (with_reducible refine (awake_any _).mono ?_); rintro e w3 ⟨rfl, hb3⟩))
    go_ret
    exact ⟨rfl, bon HW1.out hb3⟩
  | true =>
    by_cases h6 : p.n ≤ 8
    · by_cases hv : validE p = 0
      · have hve : (validE p != 0) = false := by simp [hv]
        have HV := Lib.hid hv
        have hV := validP hv
        have hpn := hV.n
        have hpr := hV.rules
        have HVC := Lib.hid (cut_valid hv)
        have HFC := Lib.hid (cut_flat p)
        clear hv hV
        go_enter Try.func4, Try.ntmps4
        go_upto_region 3 with (first | (go_at_call 5; (with_reducible refine (few_any _ p _ HP.out).mono ?_); rintro e w1 ⟨h1, hb1⟩; rw [hfew] at h1; subst h1; have hc1 := bcell hb1; have HW1 := Lib.hid (bon hal hb1); have hz1 : w.heap.size < w1.heap.size := (by have := hb1.size; simp at this; omega)) | (go_at_call 6; (with_reducible refine (valid_any _ p _ (HP.out.below hb1)).mono ?_); rintro e w2 ⟨rfl, hb2⟩; have hc2 := bcell hb2; have HW2 := Lib.hid (bon HW1.out hb2); have hz2 : w.heap.size < w2.heap.size := (by have := hb2.size; omega)))
        have hnW : w.heap.size < (w.alloc (.cells #[.int .i64 p.n, .slice a0 p.names.length c0, .slice a3 p.shown.length c3, .slice a1 p.rules.length c1, .slice a4 p.min.length c4] 27)).heap.size := by simp
        have HW02 := Lib.hid (bon hb1 hb2)
        clear hc1 hc2 hb1 hb2 hz1 hz2 HW1 HW2
        generalize w.alloc (.cells #[.int .i64 p.n, .slice a0 p.names.length c0, .slice a3 p.shown.length c3, .slice a1 p.rules.length c1, .slice a4 p.min.length c4] 27) = W0 at *
        have hz02 := HW02.out.size
        have hz2w : w.heap.size < w2.heap.size := by omega
        have hkx := fun o => (bcell HW02.out _ o hnW).trans (HBK.out.cell o)
        have hrow0 := HR.out
        obtain ⟨vh, vb, vw, hrows, hsls⟩ := hrow0
        have HBW2 : Hid (Below w.heap.size w w2) := Lib.hid (hal.trans (HW02.out.mono hal.size))
        have HROWS := Lib.hid hrows
        have HSLS := Lib.hid hsls
        have HBW6 : Hid (Below w.heap.size w (w2.alloc (.cells #[] 41))) := Lib.hid (bal HBW2.out _)
        clear hrows hsls
        go_upto_region 4 with (at_builtin; refine wpList_copyR rfl _ _ _ rfl _ rfl rfl (HROWS.out.below HBW6.out) (fun i hi => (HSLS.out i hi).below HBW6.out) hpr ?_; intro ag cg w7 hc7; have HST0 := Lib.hid (CutSt.start hc7); clear hc7)
        go_wp2_with fail
        go_loopw [34] (fun i wx => CutRel p w2 ag cg vh vb vw i wx) (fun i _ => p.rules.length - (intOf i).toNat)
        case atStart => exact ⟨0, Nat.zero_le _, rfl, HST0.out⟩
        case round =>
          obtain ⟨k, hk, rfl, hst⟩ := hrel
          have HST := Lib.hid hst
          have hzs := hst.below.size
          by_cases hlt : k < p.rules.length
          · obtain ⟨g, D, rfl, hg, hbD, hD⟩ := hst.rows (by omega)
            have hgl := hbD.lt
            have kD : ∀ j, j < 6 → wr.cell? ⟨g, k * 6 + j, none⟩ = some (ruleCell (ixR p.rules k) (vh k) (vb k) (vw k) j) := fun j hj => by
              rw [hbD.cell, hD k hlt j hj, if_neg (Nat.lt_irrefl _)]
            have r0 : wr.cell? ⟨g, k * 6, none⟩ = some (.bool (ixR p.rules k).choice) := kD 0 (by omega)
            have r1 := kD 1 (by omega)
            have r2 : wr.cell? ⟨g, k * 6 + 2, none⟩ = some (.bool (ixR p.rules k).sum) := kD 2 (by omega)
            have r3 : wr.cell? ⟨g, k * 6 + 3, none⟩ = some (.int .i64 (ixR p.rules k).bound) := kD 3 (by omega)
            have r4 := kD 4 (by omega)
            have r5 := kD 5 (by omega)
            have hsl := HSLS.out k hlt
            obtain ⟨x1, y1, e1, g0, g1, -, -⟩ := hsl.head.form
            obtain ⟨x2, y2, e2, -, g2, -, -⟩ := hsl.body.form
            obtain ⟨x3, y3, e3, -, g3, -, -⟩ := hsl.wts.form
            simp only [ruleCell, e1] at r1
            simp only [ruleCell, e2] at r4
            simp only [ruleCell, e3] at r5
            have ff := hbD.free (k * 6 + 1)
            have HE1 := Lib.hid e1
            have HCQ : Hid (cutQ (ixR p.rules k) = (!(ixR p.rules k).choice && decide (1 < (ixR p.rules k).head.length))) := Lib.hid rfl
            clear hsl hD kD hst e1 e2 e3
            cases hch : (ixR p.rules k).choice with
            | true =>
              have HQ : Hid (cutQ (ixR p.rules k) = false) := Lib.hid (by rw [HCQ.out, hch]; rfl)
              rw [hch] at r0
              clear hch HCQ
              go_wp2_with fail
              first
                | (go_roundw
                   case rel => (exact ⟨k + 1, hlt, by go_num, HST.out.skip HQ.out _⟩)
                   case measure => (simp [intOf]; omega))
                | (refine ⟨?_, ?_⟩
                   · (exact ⟨k + 1, hlt, by go_num, HST.out.skip HQ.out _⟩)
                   · (simp [intOf]; omega))
            | false =>
              rw [hch] at r0
              by_cases h1 : 1 < (ixR p.rules k).head.length
              · have HQ : Hid (cutQ (ixR p.rules k) = true) := Lib.hid (by rw [HCQ.out, hch, decide_eq_true h1]; rfl)
                clear hch HCQ
                go_wp2_with fail
                first
                  | (go_roundw
                     case rel => (exact ⟨k + 1, hlt, by go_num, HST.out.step hlt HQ.out HE1.out _⟩)
                     case measure => (simp [intOf]; omega))
                  | (refine ⟨?_, ?_⟩
                     · (exact ⟨k + 1, hlt, by go_num, HST.out.step hlt HQ.out HE1.out _⟩)
                     · (simp [intOf]; omega))
              · have HQ : Hid (cutQ (ixR p.rules k) = false) := Lib.hid (by rw [HCQ.out, hch, decide_eq_false h1]; rfl)
                clear hch HCQ
                go_wp2_with fail
                first
                  | (go_roundw
                     case rel => (exact ⟨k + 1, hlt, by go_num, HST.out.skip HQ.out _⟩)
                     case measure => (simp [intOf]; omega))
                  | (refine ⟨?_, ?_⟩
                     · (exact ⟨k + 1, hlt, by go_num, HST.out.skip HQ.out _⟩)
                     · (simp [intOf]; omega))
          · obtain rfl : k = p.rules.length := by omega
            have hwx : Below w.heap.size w wr := HBW2.out.trans (hst.below.mono HBW2.out.size)
            have hw0 : Below W0.heap.size W0 wr := HW02.out.trans (hst.below.mono hz02)
            have hbox := HBK.out.below hw0
            have kb := hbox.cell
            have fb := hbox.free 3
            have HBOX := Lib.hid (hbox.set 3 (.slice ag p.rules.length cg))
            have hb10 : Below w.heap.size w (wr.setCell ⟨w.heap.size, 3, none⟩ (.slice ag p.rules.length cg)) := hwx.setCell (p := ⟨w.heap.size, 3, none⟩) (Nat.le_refl _) _
            have HB10 := Lib.hid hb10
            have HRF := Lib.hid (hst.rules HSLS.out (W := wr.setCell ⟨w.heap.size, 3, none⟩ (.slice ag p.rules.length cg)) (fun g D hg hD => hD.setOther 3 _ (by omega)) hb10 hpr)
            have HPC : Hid (ProgIs (wr.setCell ⟨w.heap.size, 3, none⟩ (.slice ag p.rules.length cg)) (.agg #[.int .i64 p.n, .slice a0 p.names.length c0, .slice a3 p.shown.length c3, .slice ag p.rules.length cg, .slice a4 p.min.length c4]) p.cut) := Lib.hid (by
              obtain ⟨vn, vs, vr, vm, e, hps⟩ := HP0.out
              cases e
              exact ⟨_, _, _, _, rfl, hps.n, hps.names.below hb10, hps.shown.below hb10, HRF.out, hps.min.below hb10⟩)
            have hzr : w2.heap.size ≤ wr.heap.size := hzs
            clear hwx hw0 hbox hb10 HST hst hkx
            go_upto_region 11 with fail
            have hzW : w.heap.size < (wr.setCell ⟨w.heap.size, 3, none⟩ (.slice ag p.rules.length cg)).heap.size := HBOX.out.lt
            have kx := HBOX.out.cell
            clear kb fb
            generalize wr.setCell ⟨w.heap.size, 3, none⟩ (.slice ag p.rules.length cg) = W10 at *
            simp only [List.set_cons_succ, List.set_cons_zero] at kx
            go_upto_region 16 with (first
              | (go_at_call 13; (with_reducible refine (Is_any _ _ p.cut m _ (HPC.out.below HB12.out) (HIM.out.below HB122.out) HVC.out HFC.out HSQ.out (cut_small hfew) (by omega)).mono ?_); rintro e w13 ⟨b, rfl, hst, hb13⟩; have HSTB := Lib.hid hst; have HB13 := Lib.hid (bon HB12.out hb13); have HB13W := Lib.hid (bon HB122.out hb13); have kx13 := fun o => (bcell HB13.out _ o hzW).trans (kx o); have HCR13 := Lib.hid (HSRC.out.core.below hb13); have HIM13 := Lib.hid (HIM.out.below (bon HB122.out hb13)); clear hst hb13)
              | (go_at_call 8; (with_reducible refine (new_valid (HPC.out.below HB11.out) HVC.out).mono ?_); rintro e w12 ⟨s, rfl, hb12, hsH, hs12⟩; have HSRC := Lib.hid hs12; have HB122 := Lib.hid hb12; have HB12 := Lib.hid (bon HB11.out hb12); have kx12 := fun o => (bcell HB12.out _ o hzW).trans (kx o); have hsH1 : W10.heap.size ≤ s.H := (by rw [hsH]; exact HB11.out.size); clear hs12 hb12)
              | (go_at_call 12; (with_reducible refine (subset_set p.n bits _ hpn).mono ?_); rintro e w11 ⟨am, nm, cm, m, rfl, hqm, hlm, hmm, hsm, hb11⟩; have HIM := Lib.hid (hqm.ints (by omega)); have HSQ : Hid (setQ p.cut.n m = true) := Lib.hid (setQ_of hsm hmm); have HB11 := Lib.hid hb11; have kx11 := fun o => (bcell hb11 _ o hzW).trans (kx o); clear hqm hmm hsm hb11; obtain ⟨_, _, em, -, -, -, -⟩ := HIM.out.form; cases em))
            have hmutL := HCR13.out.lim
            go_upto_region 17 with (first
              | (go_at_call 9; (with_reducible refine (find_hist HCR14.out (zero_inv p.cut) (by omega) _ HEX.out (Nat.le_of_eq hsH.symm) HB14W.out).mono ?_); rintro e w15 ⟨F, av, cv, rfl, hq15, hf15, hl15, ht15⟩; have HFND := Lib.hid hf15; have HB15W := Lib.hid ht15.below; have HB15 := Lib.hid (bon HB11.out ht15.below); clear hq15 hf15 hl15 ht15)
              | (go_at_call 14; (with_reducible refine (extend_any _ _ p.cut m _ (HPC.out.below HB13.out) HIM13.out).mono ?_); rintro e w14 ⟨ae, ce, rfl, hex, hb14⟩; have HEX := Lib.hid hex; have HB14W := Lib.hid (bon HB13W.out hb14); have HCR14 := Lib.hid (HCR13.out.below hb14); clear hex hb14))
            have hB := HSTB.out F HFND.out
            have hsz15 := HB15.out.size
            have kx15 := fun o => (bcell HB15.out _ o hzW).trans (kx o)
            have HP15 := Lib.hid (HPC.out.below HB15.out)
            have HM15 := Lib.hid (HIM.out.below HB15W.out)
            have HSP : Hid ((decide (validE p.cut = 0) && (setQ p.cut.n m && suppB p.cut m)) = suppB p.cut m) := Lib.hid (by rw [decide_eq_true HVC.out, HSQ.out]; simp)
            clear kx13 kx12 kx11 kx
            generalize findTo F (extA p.cut m) p.cut.n.toNat = U at *
            cases hsb : suppB p.cut m with
            | false =>
              rw [hsb, Bool.false_and] at hB
              have HSQ2 : Hid ((decide (validE p.cut = 0) && (setQ p.cut.n m && suppB p.cut m)) = false) := Lib.hid (HSP.out.trans hsb)
              subst hB
              go_wp2_with (first
                | (go_at_call 15; (with_reducible refine (supported_any _ _ p.cut m _ HP15.out HM15.out).mono ?_); rintro e w16 ⟨e16, hb16⟩; rw [HSQ2.out] at e16; subst e16)
                | (go_at_call 7; (with_reducible refine (awake_any _).mono ?_); rintro e w17 ⟨rfl, hb17⟩))
              go_ret
              exact ⟨rfl, HB10.out.trans ((bon (bon HB15.out hb16) hb17).mono HB10.out.size)⟩
            | true =>
              rw [hsb, Bool.true_and] at hB
              have HSQ2 : Hid ((decide (validE p.cut = 0) && (setQ p.cut.n m && suppB p.cut m)) = true) := Lib.hid (HSP.out.trans hsb)
              cases U with
              | nil =>
                rw [decide_eq_true rfl] at hB
                subst hB
                simp only [List.length_nil] at *
                go_wp2_with (first
                  | (go_at_call 15; (with_reducible refine (supported_any _ _ p.cut m _ HP15.out HM15.out).mono ?_); rintro e w16 ⟨e16, hb16⟩; rw [HSQ2.out] at e16; subst e16)
                  | (go_at_call 7; (with_reducible refine (awake_any _).mono ?_); rintro e w17 ⟨rfl, hb17⟩))
                go_ret
                exact ⟨rfl, HB10.out.trans ((bon (bon HB15.out hb16) hb17).mono HB10.out.size)⟩
              | cons u U =>
                rw [decide_eq_false (by simp)] at hB
                subst hB
                have hne : (((u :: U).length : Int) == 0) = false := by simp; omega
                generalize (u :: U).length = nU at *
                go_wp2_with (first
                  | (go_at_call 15; (with_reducible refine (supported_any _ _ p.cut m _ HP15.out HM15.out).mono ?_); rintro e w16 ⟨e16, hb16⟩; rw [HSQ2.out] at e16; subst e16)
                  | (go_at_call 7; (with_reducible refine (awake_any _).mono ?_); rintro e w17 ⟨rfl, hb17⟩))
                go_ret
                exact ⟨rfl, HB10.out.trans ((bon (bon HB15.out hb16) hb17).mono HB10.out.size)⟩
      · have hve : (validE p != 0) = true := by simp [hv]
        go_enter Try.func4, Try.ntmps4
        go_wp2_with (first | (go_at_call 5; (with_reducible refine (few_any _ p _ HP.out).mono ?_); rintro e w1 ⟨h1, hb1⟩; rw [hfew] at h1; subst h1; have hc1 := bcell hb1; have HW1 := Lib.hid (bon hal hb1); have hz1 : w.heap.size < w1.heap.size := (by have := hb1.size; simp at this; omega)) | (go_at_call 6; (with_reducible refine (valid_any _ p _ (HP.out.below hb1)).mono ?_); rintro e w2 ⟨rfl, hb2⟩; have hc2 := bcell hb2; have HW2 := Lib.hid (bon HW1.out hb2); have hz2 : w.heap.size < w2.heap.size := (by have := hb2.size; omega)) | (go_at_call 7; (with_reducible refine (awake_any _).mono ?_); rintro e w3 ⟨rfl, hb3⟩))
        go_ret
        exact ⟨rfl, bon HW2.out hb3⟩
    · go_enter Try.func4, Try.ntmps4
      go_wp2_with (first | (go_at_call 5; (with_reducible refine (few_any _ p _ HP.out).mono ?_); rintro e w1 ⟨h1, hb1⟩; rw [hfew] at h1; subst h1; have hc1 := bcell hb1; have HW1 := Lib.hid (bon hal hb1); have hz1 : w.heap.size < w1.heap.size := (by have := hb1.size; simp at this; omega)) | (go_at_call 7; (with_reducible refine (awake_any _).mono ?_); rintro e w3 ⟨rfl, hb3⟩))
      go_ret
      exact ⟨rfl, bon HW1.out hb3⟩

theorem stab_law {v : Value} {p : GP} {W : World} (h : ProgIs W v p) (b : Int) (hw : (Lit.int .u8 b).wf = true) : Calls Try.prog 4 #[v, .int .u8 b] W fun e w' => e = .returned (.bool true) ∧ Below W.heap.size W w' := by
  refine stab_walk v p b W h ?_
  have := bounds_u8 hw
  omega

end Go.Proofs.Ytdoecchigfdilaa
