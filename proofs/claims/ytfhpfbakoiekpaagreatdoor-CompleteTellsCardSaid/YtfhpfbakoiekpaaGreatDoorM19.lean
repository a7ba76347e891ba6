/- My texts Rf26c, Rf26d, Rn0, merged. -/
import Derived.Test.YtfhpfbakoiekpaaGreatDoorM17
import Derived.Test.YtfhpfbakoiekpaaGreatDoorM18
import Derived.Test.YtfhpfbakoiekpaaGreatDoorM07
import Derived.Test.YtfhpfbakoiekpaaGreatDoorM12
import Derived.Test.YtfhpfbakoiekpaaGreatDoorM04

/- ostlerref26: Supported. -/
namespace Go.Proofs.YtfhpfbakoiekpaaGreatDoor
open Go.RowKit

def supJ (p : GP) (m : List Int) (j : Nat) : Bool := anyR p.rules.length (fun i => bodyT (ixR p.rules i) m && decide (ix m j ∈ (ixR p.rules i).head))
def supTo (p : GP) (m : List Int) (j t : Nat) : Bool := anyR t (fun i => bodyT (ixR p.rules i) m && decide (ix m j ∈ (ixR p.rules i).head))
theorem supTo_next (p : GP) (m : List Int) (j t : Nat) : supTo p m j (t + 1) = (supTo p m j t || (bodyT (ixR p.rules t) m && decide (ix m j ∈ (ixR p.rules t).head))) := anyR_next _ _
def rsupB (p : GP) (m : List Int) : Bool := decide (validE p = 0) && setQ p.n m && suppB p m

def Rs1Rel (p : GP) (m : List Int) (c : List Value) (w : World) (i : Value) (wx : World) : Prop :=
  ∃ k : Nat, k ≤ m.length ∧ i = .int .i64 k ∧ (∀ j, j < k → supJ p m j = true) ∧ Blk wx w.heap.size c 27 ∧ Below w.heap.size w wx
def Rs2Rel (p : GP) (m : List Int) (j : Nat) (c : List Value) (w : World) (f i : Value) (wx : World) : Prop :=
  ∃ t : Nat, t ≤ p.rules.length ∧ i = .int .i64 t ∧ f = .bool (supTo p m j t) ∧ Blk wx w.heap.size c 27 ∧ Below w.heap.size w wx

set_option maxHeartbeats 8000000 in
set_option maxRecDepth 100000 in
theorem rsupp_any (v vm : Value) (p : GP) (m : List Int) (w : World) (h : ProgIs w v p) (hm : Ints w vm m) :
    Calls Tryz.prog 24 #[v, vm] w fun e w' => e = .returned (.bool (rsupB p m)) ∧ Below w.heap.size w w' := by
  have h0 := h
  obtain ⟨vn, vs, vr, vmn, rfl, hn, -, -, hrules, -⟩ := h
  obtain ⟨a1, c1, rfl, -, hl1, -, hcell⟩ := hrules.form
  obtain ⟨am, cm, rfl, -, hlm, -, hmc⟩ := hm.form
  have hal := bal (Below.refl w.heap.size w) (.cells #[.int .i64 p.n, vn, vs, .slice a1 p.rules.length c1, vmn] 27)
  have HAL := Lib.hid hal
  have HBK := Lib.hid (Blk.new w [.int .i64 p.n, vn, vs, .slice a1 p.rules.length c1, vmn] 27)
  have kx0 := HBK.out.cell
  have HP0 := Lib.hid (h0.below hal)
  have HM0 := Lib.hid (hm.below hal)
  have HM := Lib.hid hm
  have HDF : Hid (rsupB p m = (decide (validE p = 0) && setQ p.n m && (modelsB p m && allR m.length (supJ p m)))) := Lib.hid rfl
  clear hal hm h0 hrules
  by_cases hv : validE p = 0
  case neg =>
    have hv1 : (validE p != 0) = true := by simp [hv]
    have HF : Hid (rsupB p m = false) := Lib.hid (by rw [HDF.out, decide_eq_false hv]; rfl)
    clear hv
    have HV : Hid (validE p = validE p) := Lib.hid rfl
    go_enter Tryz.func24, Tryz.ntmps24
    go_wp2_with (go_at_call 15; (with_reducible refine (valid_ref _ p _ HP0.out).mono ?_); rintro e w1 ⟨e1, hb1⟩; rw [HV.out] at e1; subst e1; have HP1 := Lib.hid (HP0.out.below hb1); have HM1 := Lib.hid (HM0.out.below hb1); have HB1 := Lib.hid (bon HAL.out hb1); have HX1 := Lib.hid (HBK.out.below hb1); have kx1 := HX1.out.cell; clear hb1)
    go_ret
    exact ⟨ret_bool HF.out.symm, HB1.out⟩
  have HV := Lib.hid hv
  have HV0 := Lib.hid hv
  rw [decide_eq_true hv, Bool.true_and] at HDF
  clear hv
  cases hs : setQ p.n m with
  | false =>
    have HS := Lib.hid hs
    have HF : Hid (rsupB p m = false) := Lib.hid (by rw [HDF.out, hs]; rfl)
    clear hs
    go_enter Tryz.func24, Tryz.ntmps24
    go_wp2_with (first | (go_at_call 65; (with_reducible refine (rset_any _ _ p m _ HP1.out HM1.out).mono ?_); rintro e w2 ⟨e2, hb2⟩; rw [HS.out] at e2; subst e2; have HP2 := Lib.hid (HP1.out.below hb2); have HM2 := Lib.hid (HM1.out.below hb2); have HB2 := Lib.hid (bon HB1.out hb2); have HX2 := Lib.hid (HX1.out.below hb2); have kx2 := HX2.out.cell; clear hb2) | (go_at_call 15; (with_reducible refine (valid_ref _ p _ HP0.out).mono ?_); rintro e w1 ⟨e1, hb1⟩; rw [HV.out] at e1; subst e1; have HP1 := Lib.hid (HP0.out.below hb1); have HM1 := Lib.hid (HM0.out.below hb1); have HB1 := Lib.hid (bon HAL.out hb1); have HX1 := Lib.hid (HBK.out.below hb1); have kx1 := HX1.out.cell; clear hb1))
    go_ret
    exact ⟨ret_bool HF.out.symm, HB2.out⟩
  | true =>
  have HS := Lib.hid hs
  rw [hs, Bool.true_and] at HDF
  clear hs
  cases hmd : modelsB p m with
  | false =>
    have HMD := Lib.hid hmd
    have HF : Hid (rsupB p m = false) := Lib.hid (by rw [HDF.out, hmd]; rfl)
    clear hmd
    go_enter Tryz.func24, Tryz.ntmps24
    go_wp2_with (first | (go_at_call 70; (with_reducible refine (rmodels_any _ _ p m _ HP2.out HM2.out HV0.out).mono ?_); rintro e w3 ⟨e3, hb3⟩; rw [HMD.out] at e3; subst e3; have HP3 := Lib.hid (HP2.out.below hb3); have HM3 := Lib.hid (HM2.out.below hb3); have HB3 := Lib.hid (bon HB2.out hb3); have HX3 := Lib.hid (HX2.out.below hb3); clear hb3) | (go_at_call 65; (with_reducible refine (rset_any _ _ p m _ HP1.out HM1.out).mono ?_); rintro e w2 ⟨e2, hb2⟩; rw [HS.out] at e2; subst e2; have HP2 := Lib.hid (HP1.out.below hb2); have HM2 := Lib.hid (HM1.out.below hb2); have HB2 := Lib.hid (bon HB1.out hb2); have HX2 := Lib.hid (HX1.out.below hb2); have kx2 := HX2.out.cell; clear hb2) | (go_at_call 15; (with_reducible refine (valid_ref _ p _ HP0.out).mono ?_); rintro e w1 ⟨e1, hb1⟩; rw [HV.out] at e1; subst e1; have HP1 := Lib.hid (HP0.out.below hb1); have HM1 := Lib.hid (HM0.out.below hb1); have HB1 := Lib.hid (bon HAL.out hb1); have HX1 := Lib.hid (HBK.out.below hb1); have kx1 := HX1.out.cell; clear hb1))
    go_ret
    exact ⟨ret_bool HF.out.symm, HB3.out⟩
  | true =>
  have HMD := Lib.hid hmd
  rw [hmd, Bool.true_and] at HDF
  clear hmd
  go_enter Tryz.func24, Tryz.ntmps24
  go_upto_region 4 with (first | (go_at_call 70; (with_reducible refine (rmodels_any _ _ p m _ HP2.out HM2.out HV0.out).mono ?_); rintro e w3 ⟨e3, hb3⟩; rw [HMD.out] at e3; subst e3; have HP3 := Lib.hid (HP2.out.below hb3); have HM3 := Lib.hid (HM2.out.below hb3); have HB3 := Lib.hid (bon HB2.out hb3); have HX3 := Lib.hid (HX2.out.below hb3); clear hb3) | (go_at_call 65; (with_reducible refine (rset_any _ _ p m _ HP1.out HM1.out).mono ?_); rintro e w2 ⟨e2, hb2⟩; rw [HS.out] at e2; subst e2; have HP2 := Lib.hid (HP1.out.below hb2); have HM2 := Lib.hid (HM1.out.below hb2); have HB2 := Lib.hid (bon HB1.out hb2); have HX2 := Lib.hid (HX1.out.below hb2); have kx2 := HX2.out.cell; clear hb2) | (go_at_call 15; (with_reducible refine (valid_ref _ p _ HP0.out).mono ?_); rintro e w1 ⟨e1, hb1⟩; rw [HV.out] at e1; subst e1; have HP1 := Lib.hid (HP0.out.below hb1); have HM1 := Lib.hid (HM0.out.below hb1); have HB1 := Lib.hid (bon HAL.out hb1); have HX1 := Lib.hid (HBK.out.below hb1); have kx1 := HX1.out.cell; clear hb1))
  clear kx0 kx1 kx2
  go_loopw [5] (fun i wx => Rs1Rel p m [.int .i64 p.n, vn, vs, .slice a1 p.rules.length c1, vmn] w i wx) (fun i _ => m.length - (intOf i).toNat)
  case atStart => exact ⟨0, Nat.zero_le _, rfl, fun j hj => absurd hj (Nat.not_lt_zero _), HX3.out, HB3.out⟩
  case round =>
    obtain ⟨j, hj, rfl, hall, hbx, hb⟩ := hrel
    have HA := Lib.hid hall
    have HX := Lib.hid hbx
    have HB := Lib.hid hb
    clear hall
    by_cases hlt : j < m.length
    · obtain ⟨bm, om, rfl, hbm, hcm⟩ := hmc (by omega)
      have HCM := Lib.hid (hcm j hlt)
      have HSA : Hid (supTo p m j p.rules.length = supJ p m j) := Lib.hid rfl
      have HNX : Hid (supJ p m j = true → ∀ i, i < j + 1 → supJ p m i = true) := Lib.hid (fun h => lt_succ_all HA.out h)
      have HFX : Hid (supJ p m j = false → rsupB p m = false) := Lib.hid (fun h => by rw [HDF.out, allR_false j hlt h])
      clear hcm hmc hbx hb
      go_upto_region 8 with fail
      have HX5 := Lib.hid HX.out
      have HB5 := Lib.hid HB.out
      clear HX HB
      generalize wr = wq at *
      go_loopw [6, 7] (fun f i wx => Rs2Rel p m j [.int .i64 p.n, vn, vs, .slice a1 p.rules.length c1, vmn] w f i wx) (fun _ i _ => p.rules.length - (intOf i).toNat)
      case atStart => exact ⟨0, Nat.zero_le _, rfl, by simp [supTo, anyR], HX5.out, HB5.out⟩
      case round =>
        obtain ⟨t, ht, rfl, rfl, hbx, hb⟩ := hrel
        have HX := Lib.hid hbx
        have HB := Lib.hid hb
        have hlx := hbx.lt
        have HSN := Lib.hid (supTo_next p m j t)
        have HST : Hid (t = p.rules.length → supTo p m j t = supJ p m j) := Lib.hid (fun e => by rw [e]; rfl)
        have kx := hbx.cell
        by_cases hlt2 : t < p.rules.length
        · obtain ⟨b, off, rfl, hbl, hc⟩ := hcell (by omega)
          obtain ⟨vh, vb, vw, hcc, hsl⟩ := hc t hlt2
          have hcw := hcc.below hb hbl
          have hl1' : b < wr.heap.size := Nat.lt_of_lt_of_le hbl hb.size
          have hl2' : bm < wr.heap.size := Nat.lt_of_lt_of_le hbm hb.size
          have q0 : ∀ e : Ext wr, ∀ o, e.world.cell? ⟨w.heap.size, o, none⟩ = _ := fun e o => (bcell e.below _ o hlx).trans (kx o)
          have q1 : ∀ e : Ext wr, e.world.cell? ⟨b, off + t * 6, none⟩ = _ := fun e => (hcw.below e.below hl1').1
          have q2 : ∀ e : Ext wr, e.world.cell? ⟨b, off + t * 6 + 1, none⟩ = _ := fun e => (hcw.below e.below hl1').2.1
          have q3 : ∀ e : Ext wr, e.world.cell? ⟨b, off + t * 6 + 2, none⟩ = _ := fun e => (hcw.below e.below hl1').2.2.1
          have q4 : ∀ e : Ext wr, e.world.cell? ⟨b, off + t * 6 + 3, none⟩ = _ := fun e => (hcw.below e.below hl1').2.2.2.1
          have q5 : ∀ e : Ext wr, e.world.cell? ⟨b, off + t * 6 + 4, none⟩ = _ := fun e => (hcw.below e.below hl1').2.2.2.2.1
          have q6 : ∀ e : Ext wr, e.world.cell? ⟨b, off + t * 6 + 5, none⟩ = _ := fun e => (hcw.below e.below hl1').2.2.2.2.2
          have q7 : ∀ e : Ext wr, e.world.cell? ⟨bm, om + j, none⟩ = some (.int .i64 (ix m j)) := fun e => (bcell e.below _ _ hl2').trans ((bcell hb _ _ hbm).trans HCM.out)
          have HIN : Hid (∀ e : Ext wr, Calls Tryz.prog 31 #[vh, .int .i64 (ix m j)] e.world fun e' w' => e' = .returned (.bool (decide (ix m j ∈ (ixR p.rules t).head))) ∧ e.world = w') := Lib.hid (fun e => in_any _ _ _ (hsl.below (bon hb e.below)).head _)
          have HRB : Hid (∀ e : Ext wr, Calls Tryz.prog 67 #[.agg #[.bool (ixR p.rules t).choice, vh, .bool (ixR p.rules t).sum, .int .i64 (ixR p.rules t).bound, vb, vw], .slice (some ⟨bm, om, none⟩) m.length cm] e.world fun e' w' => e' = .returned (.bool (bodyT (ixR p.rules t) m)) ∧ Below e.world.heap.size e.world w') := Lib.hid (fun e => rfbody_any _ _ _ _ _ ⟨_, _, _, rfl, hsl.below (bon hb e.below)⟩ (HM.out.below (bon hb e.below)) (bodyOk_valid HV0.out hlt2) (fun i hi => (ordered_lit ((validP HV0.out).body t hlt2) (ix_mem hi)).1))
          obtain ⟨ah, ch, rfl, -⟩ := hsl.head.form
          obtain ⟨ab, cb, rfl, -⟩ := hsl.body.form
          obtain ⟨aw, cw, rfl, -⟩ := hsl.wts.form
          clear hc hcell hcc hcw hsl hbx hb HST
          generalize ixR p.rules t = r at *
          cases hf : supTo p m j t with
          | true =>
            rw [hf] at HSN
            clear hf
            go_wp2
            refine wp_region_ext (by kernel_rfl) (by kernel_rfl) ?_
            repeat (go_big_quiet_step ((first | (go_at_call 31; exact Calls.ext_of_same (HIN.out _)) | (go_at_call 67; exact Calls.ext_of (HRB.out _)))))
            refine wpQuiet_nil ?_
            intro w9 hw'
            obtain ⟨e9, he9⟩ := hw'
            have hb9 := e9.below
            rw [← he9] at hb9
            clear he9 e9
            try dsimp only
            go_wp2
            first
              | (go_roundw
                 case rel => (exact ⟨t + 1, hlt2, by go_num, by rw [HSN.out]; rfl, HX.out.below hb9, bon HB.out hb9⟩)
                 case measure => (simp [intOf]; omega))
              | (refine ⟨?_, ?_⟩
                 · (exact ⟨t + 1, hlt2, by go_num, by rw [HSN.out]; rfl, HX.out.below hb9, bon HB.out hb9⟩)
                 · (simp [intOf]; omega))
          | false =>
            rw [hf] at HSN
            clear hf
            by_cases hi : ix m j ∈ r.head
            · rw [decide_eq_true hi] at HIN HSN
              clear hi
              cases hbt : bodyT r m with
              | true =>
                rw [hbt] at HRB HSN
                clear hbt
                go_wp2
                refine wp_region_ext (by kernel_rfl) (by kernel_rfl) ?_
                repeat (go_big_quiet_step ((first | (go_at_call 31; exact Calls.ext_of_same (HIN.out _)) | (go_at_call 67; exact Calls.ext_of (HRB.out _)))))
                refine wpQuiet_nil ?_
                intro w9 hw'
                obtain ⟨e9, he9⟩ := hw'
                have hb9 := e9.below
                rw [← he9] at hb9
                clear he9 e9
                try dsimp only
                go_wp2
                first
                  | (go_roundw
                     case rel => (exact ⟨t + 1, hlt2, by go_num, by rw [HSN.out]; rfl, HX.out.below hb9, bon HB.out hb9⟩)
                     case measure => (simp [intOf]; omega))
                  | (refine ⟨?_, ?_⟩
                     · (exact ⟨t + 1, hlt2, by go_num, by rw [HSN.out]; rfl, HX.out.below hb9, bon HB.out hb9⟩)
                     · (simp [intOf]; omega))
              | false =>
                rw [hbt] at HRB HSN
                clear hbt
                go_wp2
                refine wp_region_ext (by kernel_rfl) (by kernel_rfl) ?_
                repeat (go_big_quiet_step ((first | (go_at_call 31; exact Calls.ext_of_same (HIN.out _)) | (go_at_call 67; exact Calls.ext_of (HRB.out _)))))
                refine wpQuiet_nil ?_
                intro w9 hw'
                obtain ⟨e9, he9⟩ := hw'
                have hb9 := e9.below
                rw [← he9] at hb9
                clear he9 e9
                try dsimp only
                go_wp2
                first
                  | (go_roundw
                     case rel => (exact ⟨t + 1, hlt2, by go_num, by rw [HSN.out]; rfl, HX.out.below hb9, bon HB.out hb9⟩)
                     case measure => (simp [intOf]; omega))
                  | (refine ⟨?_, ?_⟩
                     · (exact ⟨t + 1, hlt2, by go_num, by rw [HSN.out]; rfl, HX.out.below hb9, bon HB.out hb9⟩)
                     · (simp [intOf]; omega))
            · rw [decide_eq_false hi] at HIN HSN
              clear hi
              go_wp2
              refine wp_region_ext (by kernel_rfl) (by kernel_rfl) ?_
              repeat (go_big_quiet_step ((first | (go_at_call 31; exact Calls.ext_of_same (HIN.out _)) | (go_at_call 67; exact Calls.ext_of (HRB.out _)))))
              refine wpQuiet_nil ?_
              intro w9 hw'
              obtain ⟨e9, he9⟩ := hw'
              have hb9 := e9.below
              rw [← he9] at hb9
              clear he9 e9
              try dsimp only
              go_wp2
              first
                | (go_roundw
                   case rel => (exact ⟨t + 1, hlt2, by go_num, by rw [HSN.out, Bool.and_false]; rfl, HX.out.below hb9, bon HB.out hb9⟩)
                   case measure => (simp [intOf]; omega))
                | (refine ⟨?_, ?_⟩
                   · (exact ⟨t + 1, hlt2, by go_num, by rw [HSN.out, Bool.and_false]; rfl, HX.out.below hb9, bon HB.out hb9⟩)
                   · (simp [intOf]; omega))
        · rw [HST.out (by omega)]
          clear hbx hb HSN HST
          cases hsa : supJ p m j with
          | true =>
            have HN := Lib.hid (HNX.out hsa)
            clear hsa
            go_wp2
            first
              | (go_roundw
                 case rel => (exact ⟨j + 1, hlt, by go_num, HN.out, HX.out, HB.out⟩)
                 case measure => (simp [intOf]; omega))
              | (refine ⟨?_, ?_⟩
                 · (exact ⟨j + 1, hlt, by go_num, HN.out, HX.out, HB.out⟩)
                 · (simp [intOf]; omega))
          | false =>
            have HN := Lib.hid (HFX.out hsa)
            clear hsa
            go_wp2
            go_ret
            exact ⟨ret_bool HN.out.symm, HB.out⟩
    · have HN : Hid (rsupB p m = true) := Lib.hid (by rw [HDF.out, allR_true (fun i hi => HA.out i (by omega))])
      go_wp2
      go_ret
      exact ⟨ret_bool HN.out.symm, HB.out⟩

end Go.Proofs.YtfhpfbakoiekpaaGreatDoor

/- ostlerref26: Extend. -/
namespace Go.Proofs.YtfhpfbakoiekpaaGreatDoor
open Go.RowKit

theorem fnL_succ (N : Nat) (F : Nat → Int) : fnL (N + 1) F = fnL N F ++ [.int .i8 (F N)] := by
  unfold fnL
  rw [List.range_succ, List.map_append]
  rfl

def Re1Rel (p : GP) (m : List Int) (c : List Value) (w : World) (v i : Value) (wx : World) : Prop :=
  ∃ (k : Nat) (a : Int), k ≤ p.n.toNat ∧ a = k + 1 ∧ i = .int .i64 a ∧ wx.ownsRow (w.heap.size + 1) 55 1 v k (fnL k (extAt p m)) ∧ Blk wx w.heap.size c 27 ∧ Below w.heap.size w wx
def Re2Rel (p : GP) (m : List Int) (c : List Value) (w : World) (v i : Value) (wx : World) : Prop :=
  ∃ t : Nat, t ≤ p.rules.length ∧ i = .int .i64 t ∧ wx.ownsRow (w.heap.size + 1) 55 1 v (p.n.toNat + t) (fnL (p.n.toNat + t) (extAt p m)) ∧ Blk wx w.heap.size c 27 ∧ Below w.heap.size w wx

theorem fnL_ix {N : Nat} {F : Nat → Int} {l : List Int} (h : l = (List.range N).map F) : (List.range l.length).map (fun i => Value.int .i8 (ix l i)) = fnL N F := by
  subst h
  unfold fnL
  rw [List.length_map, List.length_range]
  exact List.map_congr_left fun i hi => by
    have := List.mem_range.1 hi
    simp [ix, List.getD_eq_getElem?_getD, this]

theorem ext_range (p : GP) (m : List Int) (i : Nat) : -128 ≤ ix (extA p m) i ∧ ix (extA p m) i ≤ 127 := by
  unfold ix
  rw [List.getD_eq_getElem?_getD]
  cases e : (extA p m)[i]? with
  | none => decide
  | some x =>
    have hx := List.mem_of_getElem? e
    unfold extA at hx
    split at hx
    · obtain ⟨j, -, rfl⟩ := List.mem_map.1 hx
      show -128 ≤ extAt p m j ∧ extAt p m j ≤ 127
      unfold extAt
      split <;> split <;> decide
    · cases hx

set_option maxHeartbeats 8000000 in
set_option maxRecDepth 100000 in
theorem rextend_any (v vm : Value) (p : GP) (m : List Int) (w : World) (h : ProgIs w v p) (hm : Ints w vm m) :
    Calls Tryz.prog 22 #[v, vm] w fun e w' => ∃ a c, e = .returned (.slice a (extA p m).length c) ∧ Bytes8 w' (.slice a (extA p m).length c) (extA p m) ∧ Below w.heap.size w w' := by
  obtain ⟨i0, hi, hz0, hz1, hz2⟩ := info_parts info8
  have h0 := h
  obtain ⟨vn, vs, vr, vmn, rfl, hn, -, -, hrules, -⟩ := h
  obtain ⟨a1, c1, rfl, -, hl1, -, hcell⟩ := hrules.form
  obtain ⟨am, cm, rfl, -, hlm, -, -⟩ := hm.form
  have hal := bal (Below.refl w.heap.size w) (.cells #[.int .i64 p.n, vn, vs, .slice a1 p.rules.length c1, vmn] 27)
  have HAL := Lib.hid hal
  have HBK := Lib.hid (Blk.new w [.int .i64 p.n, vn, vs, .slice a1 p.rules.length c1, vmn] 27)
  have kx0 := HBK.out.cell
  have HP0 := Lib.hid (h0.below hal)
  have HM0 := Lib.hid (hm.below hal)
  have HM := Lib.hid hm
  have HNIL : Hid (∀ w', Bytes8 w' (.slice none 0 0) []) := Lib.hid (fun w' => ⟨Own1.sl (base := 0) (E := 55) ⟨World.ownsRow_nil _ _ _ _, by decide⟩, fun i => by simp [ix]⟩)
  clear hal hm h0 hrules
  by_cases hv : validE p = 0
  case neg =>
    have hv1 : (validE p != 0) = true := by simp [hv]
    have HF : Hid (extA p m = []) := Lib.hid (by unfold extA; rw [if_neg (fun h => hv h.1)])
    clear hv
    have HV : Hid (validE p = validE p) := Lib.hid rfl
    rw [HF.out]
    go_enter Tryz.func22, Tryz.ntmps22
    go_wp2_with (go_at_call 15; (with_reducible refine (valid_ref _ p _ HP0.out).mono ?_); rintro e w1 ⟨e1, hb1⟩; rw [HV.out] at e1; subst e1; have HP1 := Lib.hid (HP0.out.below hb1); have HM1 := Lib.hid (HM0.out.below hb1); have HB1 := Lib.hid (bon HAL.out hb1); have HX1 := Lib.hid (HBK.out.below hb1); have kx1 := HX1.out.cell; clear hb1)
    go_ret
    exact ⟨none, 0, rfl, HNIL.out _, HB1.out⟩
  have HV := Lib.hid hv
  have HV0 := Lib.hid hv
  cases hs : setQ p.n m with
  | false =>
    have HS := Lib.hid hs
    have HF : Hid (extA p m = []) := Lib.hid (by unfold extA; rw [if_neg (fun h => by rw [hs] at h; exact Bool.noConfusion h.2)])
    clear hs hv
    rw [HF.out]
    go_enter Tryz.func22, Tryz.ntmps22
    go_wp2_with (first | (go_at_call 65; (with_reducible refine (rset_any _ _ p m _ HP1.out HM1.out).mono ?_); rintro e w2 ⟨e2, hb2⟩; rw [HS.out] at e2; subst e2; have HP2 := Lib.hid (HP1.out.below hb2); have HM2 := Lib.hid (HM1.out.below hb2); have HB2 := Lib.hid (bon HB1.out hb2); have HX2 := Lib.hid (HX1.out.below hb2); have kx2 := HX2.out.cell; clear hb2) | (go_at_call 15; (with_reducible refine (valid_ref _ p _ HP0.out).mono ?_); rintro e w1 ⟨e1, hb1⟩; rw [HV.out] at e1; subst e1; have HP1 := Lib.hid (HP0.out.below hb1); have HM1 := Lib.hid (HM0.out.below hb1); have HB1 := Lib.hid (bon HAL.out hb1); have HX1 := Lib.hid (HBK.out.below hb1); have kx1 := HX1.out.cell; clear hb1))
    go_ret
    exact ⟨none, 0, rfl, HNIL.out _, HB2.out⟩
  | true =>
  have HS := Lib.hid hs
  have HF : Hid (extA p m = (List.range (p.n.toNat + p.rules.length)).map (extAt p m)) := Lib.hid (by unfold extA; rw [if_pos ⟨hv, hs⟩])
  have hn4 := (validP hv).n
  have hr4 := (validP hv).rules
  clear hs hv
  go_enter Tryz.func22, Tryz.ntmps22
  go_upto_region 5 with (first | (go_at_call 65; (with_reducible refine (rset_any _ _ p m _ HP1.out HM1.out).mono ?_); rintro e w2 ⟨e2, hb2⟩; rw [HS.out] at e2; subst e2; have HP2 := Lib.hid (HP1.out.below hb2); have HM2 := Lib.hid (HM1.out.below hb2); have HB2 := Lib.hid (bon HB1.out hb2); have HX2 := Lib.hid (HX1.out.below hb2); have kx2 := HX2.out.cell; clear hb2) | (go_at_call 15; (with_reducible refine (valid_ref _ p _ HP0.out).mono ?_); rintro e w1 ⟨e1, hb1⟩; rw [HV.out] at e1; subst e1; have HP1 := Lib.hid (HP0.out.below hb1); have HM1 := Lib.hid (HM0.out.below hb1); have HB1 := Lib.hid (bon HAL.out hb1); have HX1 := Lib.hid (HBK.out.below hb1); have kx1 := HX1.out.cell; clear hb1))
  clear kx0 kx1
  go_loopw [5, 6] (fun v i wx => Re1Rel p m [.int .i64 p.n, vn, vs, .slice a1 p.rules.length c1, vmn] w v i wx) (fun _ i _ => (p.n + 1 - intOf i).toNat)
  case atStart => exact ⟨0, 1, Nat.zero_le _, rfl, rfl, World.ownsRow_nil _ _ _ _, HX2.out, HB2.out⟩
  case round =>
    obtain ⟨k, a, hk, ha, rfl, hrow, hbx, hb⟩ := hrel
    have HR := Lib.hid hrow
    have HX := Lib.hid hbx
    have HB := Lib.hid hb
    have kx := hbx.cell
    have hlx := hbx.lt
    obtain ⟨av, nv, cv, rfl⟩ := row_form hrow
    have HA := Lib.hid ha
    have ha1 : 1 ≤ a ∧ a ≤ p.n + 1 := by omega
    have hkn : (a ≤ p.n → k < p.n.toNat) ∧ (p.n < a → k = p.n.toNat) := by omega
    by_cases hlt : a ≤ p.n
    · have HIN := Lib.hid (in_any _ _ _ (HM.out.below hb) a)
      have HBT : Hid (∀ w', Calls Tryz.prog 66 #[.bool (decide (a ∈ m))] w' fun e w'' => e = .returned (.int .i8 (extAt p m k)) ∧ w' = w'') := Lib.hid (fun w' => by
        have := rbit_any (decide (a ∈ m)) w'
        have e : extAt p m k = if decide (a ∈ m) = true then 1 else -1 := by unfold extAt; rw [if_pos (by omega), ← ha]; simp
        rw [e]; exact this)
      have HRA := Lib.hid (row_below hrow (bal (Below.refl wr.heap.size wr) (.cells #[.int .i8 (extAt p m k)] 55)))
      have HBA := Lib.hid hb
      have HXA := Lib.hid (hbx.below (bal (Below.refl wr.heap.size wr) (.cells #[.int .i8 (extAt p m k)] 55)))
      have hkk := hkn.1 hlt
      have H1C : Hid (∀ u ∈ [Value.int .i8 (extAt p m (k))], u.oneCell' = true) := Lib.hid (by simp [Value.oneCell'])
      have H63 : Hid ((k) + 1 ≤ maxLen) := Lib.hid (by unfold maxLen; omega)
      have H8B : Hid (((k) + 1) * 1 ≤ 140737488355328) := Lib.hid (by omega)
      have HBS : Hid (w.heap.size + 1 ≤ (wr.alloc (.cells #[.int .i8 (extAt p m k)] 55)).heap.size) := Lib.hid (by have := hbx.lt; simp; omega)
      have HNW := Lib.hid (newsOf (Blk.new wr [.int .i8 (extAt p m k)] 55))
      clear hrow hbx hb ha hkn
      go_wp2_with (first | (go_at_call 31; (with_reducible refine (HIN.out).mono ?_); rintro e w1 ⟨rfl, rfl⟩) | (go_at_call 66; (with_reducible refine (HBT.out _).mono ?_); rintro e w1 ⟨rfl, rfl⟩) | (at_builtin; go_must (refine wpList_append_own _ rfl _ _ 28 rfl (w.heap.size + 1) 55 i0 _ 1 1 Tryz.underlying28 hi hz0 hz1 hz2 rfl (by decide) _ (k) (fnL (k) (extAt p m)) rfl HRA.out ⟨wr.heap.size, 0, none⟩ 1 1 [.int .i8 (extAt p m k)] rfl rfl HNW.out H1C.out H63.out H8B.out HBS.out ?_; intro v' w4 hown hgrow _; obtain ⟨av4, nv4, cv4, rfl⟩ := row_form hown; have HB4 : Hid (Below w.heap.size w w4) := Lib.hid (below_grown HBA.out (fun g e => Nat.le_of_succ_le (row_base HRA.out e).1) hgrow); have HX4 := Lib.hid (HXA.out.same (hgrow.block _ HXA.out.lt (fun e => absurd (row_base HRA.out e.symm).1 (Nat.not_succ_le_self _)))); have HR4 := Lib.hid hown; clear hown hgrow)))
      first
        | (go_roundw
           case rel => (exact ⟨k + 1, a + 1, hkk, by have := HA.out; omega, by go_num, by rw [fnL_succ]; exact HR4.out, HX4.out, HB4.out⟩)
           case measure => (simp [intOf]; omega))
        | (refine ⟨?_, ?_⟩
           · (exact ⟨k + 1, a + 1, hkk, by have := HA.out; omega, by go_num, by rw [fnL_succ]; exact HR4.out, HX4.out, HB4.out⟩)
           · (simp [intOf]; omega))
    · obtain rfl : k = p.n.toNat := hkn.2 (by omega)
      clear hrow hbx hb hlx ha hkn
      go_upto_region 9 with fail
      have HR5 := Lib.hid HR.out
      have HX5 := Lib.hid HX.out
      have HB5 := Lib.hid HB.out
      clear HR HX HB kx
      generalize wr = wq at *
      go_loopw [5, 7] (fun v i wx => Re2Rel p m [.int .i64 p.n, vn, vs, .slice a1 p.rules.length c1, vmn] w v i wx) (fun _ i _ => p.rules.length - (intOf i).toNat)
      case atStart => exact ⟨0, Nat.zero_le _, rfl, HR5.out, HX5.out, HB5.out⟩
      case round =>
        obtain ⟨t, ht, rfl, hrow, hbx, hb⟩ := hrel
        have HR := Lib.hid hrow
        have HX := Lib.hid hbx
        have HB := Lib.hid hb
        have kx := hbx.cell
        have hlx := hbx.lt
        obtain ⟨av2, nv2, cv2, rfl⟩ := row_form hrow
        by_cases hlt2 : t < p.rules.length
        · obtain ⟨b, off, rfl, hbl, hc⟩ := hcell (by omega)
          obtain ⟨vh, vb, vw, hcc, hsl⟩ := hc t hlt2
          obtain ⟨r0, r1, r2, r3, r4, r5⟩ := hcc.below hb hbl
          have HRB := Lib.hid (rfbody_any (.agg #[.bool (ixR p.rules t).choice, vh, .bool (ixR p.rules t).sum, .int .i64 (ixR p.rules t).bound, vb, vw]) _ _ m wr ⟨_, _, _, rfl, hsl.below hb⟩ (HM.out.below hb) (bodyOk_valid HV0.out hlt2) (fun i hi => (ordered_lit ((validP HV0.out).body t hlt2) (ix_mem hi)).1))
          have HBT : Hid (∀ w', Calls Tryz.prog 66 #[.bool (bodyT (ixR p.rules t) m)] w' fun e w'' => e = .returned (.int .i8 (extAt p m (p.n.toNat + t))) ∧ w' = w'') := Lib.hid (fun w' => by
            have := rbit_any (bodyT (ixR p.rules t) m) w'
            have e : extAt p m (p.n.toNat + t) = if bodyT (ixR p.rules t) m = true then 1 else -1 := by unfold extAt; rw [if_neg (by omega), Nat.add_sub_cancel_left]
            rw [e]; exact this)
          obtain ⟨ah, ch, rfl, -⟩ := hsl.head.form
          obtain ⟨ab, cb, rfl, -⟩ := hsl.body.form
          obtain ⟨aw, cw, rfl, -⟩ := hsl.wts.form
          clear hc hcell hcc hsl hrow hbx hb
          have H1C : Hid (∀ u ∈ [Value.int .i8 (extAt p m (p.n.toNat + t))], u.oneCell' = true) := Lib.hid (by simp [Value.oneCell'])
          have H63 : Hid ((p.n.toNat + t) + 1 ≤ maxLen) := Lib.hid (by unfold maxLen; omega)
          have H8B : Hid (((p.n.toNat + t) + 1) * 1 ≤ 140737488355328) := Lib.hid (by omega)
          generalize ixR p.rules t = r at *
          go_wp2_with (first | (at_builtin; go_must (refine wpList_append_own _ rfl _ _ 28 rfl (w.heap.size + 1) 55 i0 _ 1 1 Tryz.underlying28 hi hz0 hz1 hz2 rfl (by decide) _ (p.n.toNat + t) (fnL (p.n.toNat + t) (extAt p m)) rfl HRA.out ⟨w1.heap.size, 0, none⟩ 1 1 [.int .i8 (extAt p m (p.n.toNat + t))] rfl rfl HNW.out H1C.out H63.out H8B.out HBS.out ?_; intro v' w4 hown hgrow _; obtain ⟨av4, nv4, cv4, rfl⟩ := row_form hown; have HB4 : Hid (Below w.heap.size w w4) := Lib.hid (below_grown HBA.out (fun g e => Nat.le_of_succ_le (row_base HRA.out e).1) hgrow); have HX4 := Lib.hid (HXA.out.same (hgrow.block _ HXA.out.lt (fun e => absurd (row_base HRA.out e.symm).1 (Nat.not_succ_le_self _)))); have HR4 := Lib.hid hown; clear hown hgrow)) | (go_at_call 67; (with_reducible refine HRB.out.mono ?_); rintro e w1 ⟨rfl, hb1⟩; have HB1 := Lib.hid (bon HB.out hb1); have HX1 := Lib.hid (HX.out.below hb1); have hzz1 := HX1.out.lt; have HBS : Hid (w.heap.size + 1 ≤ (w1.alloc (.cells #[.int .i8 (extAt p m (p.n.toNat + t))] 55)).heap.size) := Lib.hid (by have := HX1.out.lt; simp; omega); have HNW := Lib.hid (newsOf (Blk.new w1 [.int .i8 (extAt p m (p.n.toNat + t))] 55)); have HRA := Lib.hid (row_below HR.out (bal hb1 (.cells #[.int .i8 (extAt p m (p.n.toNat + t))] 55))); have HBA := Lib.hid HB1.out; have HXA := Lib.hid (HX1.out.below (bal (Below.refl w1.heap.size w1) (.cells #[.int .i8 (extAt p m (p.n.toNat + t))] 55))); clear hb1) | (go_at_call 66; (with_reducible refine (HBT.out _).mono ?_); rintro e w2 ⟨rfl, rfl⟩))
          first
            | (go_roundw
               case rel => (exact ⟨t + 1, hlt2, by go_num, by rw [← Nat.add_assoc, fnL_succ]; exact HR4.out, HX4.out, HB4.out⟩)
               case measure => (simp [intOf]; omega))
            | (refine ⟨?_, ?_⟩
               · (exact ⟨t + 1, hlt2, by go_num, by rw [← Nat.add_assoc, fnL_succ]; exact HR4.out, HX4.out, HB4.out⟩)
               · (simp [intOf]; omega))
        · obtain rfl : t = p.rules.length := by omega
          clear hrow hbx hb
          go_wp2
          go_ret
          have hlN : (extA p m).length = p.n.toNat + p.rules.length := by rw [HF.out, List.length_map, List.length_range]
          have hby : Bytes8 wr (.slice av2 nv2 cv2) (extA p m) := ⟨Own1.sl (base := w.heap.size + 1) (E := 55) ⟨by rw [fnL_ix HF.out, hlN]; exact HR.out, by rw [hlN]; omega⟩, ext_range p m⟩
          obtain ⟨⟨ad, cap, e, -⟩, -⟩ := id hby
          simp only [Value.slice.injEq] at e
          obtain ⟨rfl, rfl, rfl⟩ := e
          exact ⟨_, _, rfl, hby, HB.out⟩

end Go.Proofs.YtfhpfbakoiekpaaGreatDoor

/- ostlerref24.Norm, Clause (plain): the reference computes the same normal form. -/
namespace Go.Proofs.YtfhpfbakoiekpaaGreatDoor

/-! ### insert -/
/-- After k elements: the list, and whether v has been placed. -/
def insTo (l : List Int) (v : Int) : Nat → List Int × Bool
  | 0 => ([], false)
  | k + 1 =>
    ((if ix l k = v then (if v ≤ ix l k ∧ (insTo l v k).2 = false then (insTo l v k).1 ++ [v] else (insTo l v k).1) else (if v ≤ ix l k ∧ (insTo l v k).2 = false then (insTo l v k).1 ++ [v] else (insTo l v k).1) ++ [ix l k]),
     (insTo l v k).2 || decide (v ≤ ix l k))

def insR (l : List Int) (v : Int) : List Int := if (insTo l v l.length).2 then (insTo l v l.length).1 else (insTo l v l.length).1 ++ [v]

theorem insK_app {v : Int} : ∀ {t s : List Int}, (∀ y ∈ t, y < v) → insK v (t ++ s) = t ++ insK v s
  | [], s, _ => rfl
  | y :: t, s, h => by
    have h1 := h y (.head _)
    show insK v (y :: (t ++ s)) = y :: (t ++ insK v s)
    rw [← insK_app (t := t) (s := s) fun z hz => h z (.tail _ hz)]
    show (if v < y then v :: y :: (t ++ s) else if v = y then y :: (t ++ s) else y :: insK v (t ++ s)) = _
    rw [if_neg (by omega), if_neg (by omega)]

theorem insK_snoc {v x : Int} : ∀ {t : List Int}, (∃ y ∈ t, v ≤ y) → insK v (t ++ [x]) = insK v t ++ [x]
  | [], ⟨y, hy, _⟩ => by simp at hy
  | z :: t, ⟨y, hy, h⟩ => by
    show insK v (z :: (t ++ [x])) = insK v (z :: t) ++ [x]
    unfold insK
    by_cases h1 : v < z
    · rw [if_pos h1, if_pos h1]; rfl
    · rw [if_neg h1, if_neg h1]
      by_cases h2 : v = z
      · rw [if_pos h2, if_pos h2]; rfl
      · rw [if_neg h2, if_neg h2]
        have hy' : y ∈ t := by
          rcases List.mem_cons.1 hy with rfl | hy
          · omega
          · exact hy
        rw [insK_snoc ⟨y, hy', h⟩]; rfl

theorem insTo_is {l : List Int} (hs : l.Pairwise (· < ·)) (v : Int) : ∀ k, k ≤ l.length →
    ((∃ y ∈ l.take k, v ≤ y) → insTo l v k = (insK v (l.take k), true)) ∧ ((∀ y ∈ l.take k, y < v) → insTo l v k = (l.take k, false))
  | 0, _ => ⟨fun ⟨y, hy, _⟩ => by simp at hy, fun _ => rfl⟩
  | k + 1, hk => by
    obtain ⟨i1, i2⟩ := insTo_is hs v k (by omega)
    have e : l.take (k + 1) = l.take k ++ [ix l k] := by rw [ix_get (by omega)]; exact List.take_succ_eq_append_getElem (by omega)
    have hlt : ∀ y ∈ l.take k, y < ix l k := fun y hy => by
      have := hs.sublist (List.take_sublist (k + 1) l)
      rw [e] at this
      exact (List.pairwise_append.1 this).2.2 _ hy _ (by simp)
    by_cases hP : ∃ y ∈ l.take k, v ≤ y
    · have hx : v < ix l k := by obtain ⟨y, hy, h⟩ := hP; have := hlt y hy; omega
      refine ⟨fun _ => ?_, fun h => ?_⟩
      · unfold insTo
        rw [i1 hP, e, insK_snoc hP, if_neg (by omega), if_neg (by simp)]
        simp
      · obtain ⟨y, hy, h1⟩ := hP
        have := h y (by rw [e]; exact List.mem_append_left _ hy)
        omega
    · have hall : ∀ y ∈ l.take k, y < v := fun y hy => by
        rcases Int.lt_or_le y v with h | h
        · exact h
        · exact absurd ⟨y, hy, h⟩ hP
      unfold insTo
      rw [i2 hall, e, insK_app hall]
      by_cases hv : v ≤ ix l k
      · refine ⟨fun _ => ?_, fun h => ?_⟩
        · show ((if ix l k = v then (if v ≤ ix l k ∧ false = false then l.take k ++ [v] else l.take k) else (if v ≤ ix l k ∧ false = false then l.take k ++ [v] else l.take k) ++ [ix l k]), false || decide (v ≤ ix l k)) = _
          by_cases h2 : ix l k = v
          · rw [if_pos h2, h2]; simp [insK]
          · have : v < ix l k := by omega
            rw [if_neg h2]
            simp [insK, this, hv]
        · have := h (ix l k) (by simp)
          omega
      · refine ⟨fun ⟨y, hy, h⟩ => ?_, fun _ => ?_⟩
        · rcases List.mem_append.1 hy with hy | hy
          · have := hall y hy; omega
          · obtain rfl : y = ix l k := by simpa using hy
            omega
        · show ((if ix l k = v then (if v ≤ ix l k ∧ false = false then l.take k ++ [v] else l.take k) else (if v ≤ ix l k ∧ false = false then l.take k ++ [v] else l.take k) ++ [ix l k]), false || decide (v ≤ ix l k)) = _
          rw [if_neg (show ¬ (v ≤ ix l k ∧ false = false) by omega), if_neg (by omega), decide_eq_false hv]
          rfl

theorem insR_is {l : List Int} (hs : l.Pairwise (· < ·)) (v : Int) : insR l v = insK v l := by
  obtain ⟨h1, h2⟩ := insTo_is hs v l.length (Nat.le_refl _)
  rw [List.take_length] at h1 h2
  unfold insR
  by_cases hP : ∃ y ∈ l, v ≤ y
  · rw [h1 hP]; rfl
  · have hall : ∀ y ∈ l, y < v := fun y hy => by
      rcases Int.lt_or_le y v with h | h
      · exact h
      · exact absurd ⟨y, hy, h⟩ hP
    rw [h2 hall]
    have := insK_app (s := []) hall
    rw [List.append_nil] at this
    rw [this]; rfl

theorem insTo_len (l : List Int) (v : Int) : ∀ k, (insTo l v k).1.length ≤ 2 * k
  | 0 => by simp [insTo]
  | k + 1 => by
    have := insTo_len l v k
    unfold insTo
    split <;> split <;> simp <;> omega

/-! ### The variables -/
def varsTo (L : List Int) : Nat → List Int
  | 0 => []
  | k + 1 => insK ((ix L k).natAbs : Int) (varsTo L k)

theorem varsTo_sorted (L : List Int) : ∀ k, (varsTo L k).Pairwise (· < ·)
  | 0 => by simp [varsTo]
  | k + 1 => insK_sorted (varsTo_sorted L k)

theorem varsTo_mem {L : List Int} {x : Int} : ∀ k, x ∈ varsTo L k ↔ ∃ j, j < k ∧ ((ix L j).natAbs : Int) = x
  | 0 => by simp [varsTo]
  | k + 1 => by
    unfold varsTo
    rw [mem_insK, varsTo_mem k]
    constructor
    · rintro (h | ⟨j, hj, e⟩)
      · exact ⟨k, by omega, h.symm⟩
      · exact ⟨j, by omega, e⟩
    · rintro ⟨j, hj, e⟩
      rcases Nat.lt_or_ge j k with h | h
      · exact .inr ⟨j, h, e⟩
      · obtain rfl : j = k := by omega
        exact .inl e.symm

theorem insK_len (v : Int) : ∀ l : List Int, (insK v l).length ≤ l.length + 1
  | [] => by simp [insK]
  | x :: l => by
    have := insK_len v l
    unfold insK
    split
    · simp
    · split <;> simp <;> omega

theorem varsTo_len (L : List Int) : ∀ k, (varsTo L k).length ≤ k
  | 0 => by simp [varsTo]
  | k + 1 => by
    have := varsTo_len L k
    have := insK_len ((ix L k).natAbs : Int) (varsTo L k)
    unfold varsTo
    omega

theorem varsTo_keys (L : List Int) : varsTo L L.length = keysOf L :=
  sorted_eqP (varsTo_sorted L _) (keys_sorted L) fun x => by
    rw [varsTo_mem, mem_keys]
    constructor
    · rintro ⟨j, hj, e⟩
      exact ⟨_, mem_ix_iff.2 ⟨j, hj, rfl⟩, e⟩
    · rintro ⟨l, hl, e⟩
      obtain ⟨j, hj, rfl⟩ := mem_ix_iff.1 hl
      exact ⟨j, hj, e⟩

/-! ### The bound -/
/-- What variable v takes from the bound in the first k literals. -/
def nTo (L K : List Int) (v : Int) : Nat → Int
  | 0 => 0
  | k + 1 => nTo L K v k + (if ix L k = -v then ix K k else 0)

theorem nTo_bound {L K : List Int} {v : Int} : ∀ (i : Nat), (∀ j, j < i → -16777216 ≤ ix K j ∧ ix K j ≤ 16777216) → -(16777216 * (i : Int)) ≤ nTo L K v i ∧ nTo L K v i ≤ 16777216 * (i : Int)
  | 0, _ => by simp [nTo]
  | i + 1, h => by
    have ih := nTo_bound (L := L) (K := K) (v := v) i fun j hj => h j (by omega)
    have hi := h i (by omega)
    unfold nTo
    push_cast
    split <;> omega

theorem sum_nTo {L K V : List Int} (hn : V.Nodup) (hpos : ∀ v ∈ V, 0 < v) : ∀ k, (∀ j, j < k → ((ix L j).natAbs : Int) ∈ V) → sumI (fun v => nTo L K v k) V = negTo L K k
  | 0, _ => sumI_zero V
  | k + 1, h => by
    have ih := sum_nTo hn hpos (K := K) k fun j hj => h j (by omega)
    have hk := h k (by omega)
    show sumI (fun v => nTo L K v k + (if ix L k = -v then ix K k else 0)) V = negTo L K k + _
    rw [sumI_add, ih]
    congr 1
    by_cases hl : ix L k < 0
    · rw [if_pos hl]
      refine (sumI_congr (g := fun v => if v = ((ix L k).natAbs : Int) then ix K k else 0) fun v hv => ?_).trans (sumI_delta (ix K k) ((ix L k).natAbs : Int) V hn hk)
      have := hpos v hv
      by_cases e : v = ((ix L k).natAbs : Int)
      · rw [if_pos (show ix L k = -v by omega), if_pos e]
      · rw [if_neg (show ¬ ix L k = -v by omega), if_neg e]
    · rw [if_neg hl]
      refine (sumI_congr (g := fun _ => 0) fun v hv => ?_).trans (sumI_zero V)
      have := hpos v hv
      rw [if_neg (show ¬ ix L k = -v by omega)]

/-- The bound behind the first i variables. -/
def bndTo (L K : List Int) (B : Int) (V : List Int) : Nat → Int
  | 0 => B
  | i + 1 => bndTo L K B V i - nTo L K (ix V i) L.length - lowI (byTo L K (ix V i) L.length)

theorem bndTo_sum {L K : List Int} {B : Int} {V : List Int} : ∀ i, i ≤ V.length → bndTo L K B V i = B - sumI (fun v => nTo L K v L.length) (V.take i) - sumI (fun v => lowI (byTo L K v L.length)) (V.take i)
  | 0, _ => by simp [bndTo, sumI]
  | i + 1, h => by
    have ih := bndTo_sum (L := L) (K := K) (B := B) (V := V) i (by omega)
    have e : V.take (i + 1) = V.take i ++ [ix V i] := by rw [ix_get (by omega)]; exact List.take_succ_eq_append_getElem (by omega)
    unfold bndTo
    rw [ih, e, sumI_snoc, sumI_snoc]
    omega

theorem bndTo_all {L K : List Int} {B : Int} (hnz : ∀ j, j < L.length → ix L j ≠ 0) :
    bndTo L K B (keysOf L) (keysOf L).length = B - negTo L K L.length - sumI (fun v => lowI (byTo L K v L.length)) (keysOf L) := by
  rw [bndTo_sum _ (Nat.le_refl _), List.take_length, sum_nTo (sorted_nodup (keys_sorted L)) (keys_pos hnz) L.length fun j hj => mem_keys.2 ⟨_, mem_ix_iff.2 ⟨j, hj, rfl⟩, rfl⟩]

/-- The variables with a coefficient, of the first i. -/
def fltTo (L K V : List Int) (i : Nat) : List Int := (V.take i).filter fun v => byTo L K v L.length != 0

theorem fltTo_succ {L K V : List Int} {i : Nat} (h : i < V.length) : fltTo L K V (i + 1) = fltTo L K V i ++ (if byTo L K (ix V i) L.length = 0 then [] else [ix V i]) := by
  have e : V.take (i + 1) = V.take i ++ [ix V i] := by rw [ix_get (by omega)]; exact List.take_succ_eq_append_getElem (by omega)
  unfold fltTo
  rw [e, List.filter_append]
  congr 1
  by_cases h0 : byTo L K (ix V i) L.length = 0
  · rw [if_pos h0]; simp [h0]
  · rw [if_neg h0]; simp [h0]

/-! ### Clause -/
/-- Without repetition, in the order of the first occurrences. -/
def onceTo (L : List Int) : Nat → List Int
  | 0 => []
  | k + 1 => if ix L k ∈ onceTo L k then onceTo L k else onceTo L k ++ [ix L k]

theorem onceTo_mem {L : List Int} {x : Int} : ∀ k, x ∈ onceTo L k ↔ ∃ j, j < k ∧ ix L j = x
  | 0 => by simp [onceTo]
  | k + 1 => by
    have ih := onceTo_mem (L := L) (x := x) k
    unfold onceTo
    split
    · rename_i h
      rw [ih]
      constructor
      · rintro ⟨j, hj, e⟩; exact ⟨j, by omega, e⟩
      · rintro ⟨j, hj, e⟩
        rcases Nat.lt_or_ge j k with h' | h'
        · exact ⟨j, h', e⟩
        · obtain rfl : j = k := by omega
          subst e
          exact ih.1 h
    · rw [List.mem_append, ih, List.mem_singleton]
      constructor
      · rintro (⟨j, hj, e⟩ | e)
        · exact ⟨j, by omega, e⟩
        · exact ⟨k, by omega, e.symm⟩
      · rintro ⟨j, hj, e⟩
        rcases Nat.lt_or_ge j k with h' | h'
        · exact .inl ⟨j, h', e⟩
        · obtain rfl : j = k := by omega
          exact .inr e.symm

theorem onceTo_nodup (L : List Int) : ∀ k, (onceTo L k).Nodup
  | 0 => by simp [onceTo]
  | k + 1 => by
    have ih := onceTo_nodup L k
    unfold onceTo
    split
    · exact ih
    · rename_i h
      exact List.nodup_append.2 ⟨ih, by simp, fun x hx y hy => by
        obtain rfl : y = ix L k := by simpa using hy
        rintro rfl
        exact h hx⟩

theorem onceTo_len (L : List Int) : ∀ k, (onceTo L k).length ≤ k
  | 0 => by simp [onceTo]
  | k + 1 => by
    have := onceTo_len L k
    unfold onceTo
    split <;> simp <;> omega

def refClause (L : List Int) : PBC × Int := normP (onceTo L L.length) (ones (onceTo L L.length).length) 1

theorem negTo_ones {S : List Int} : ∀ (i : Nat), i ≤ S.length → negTo S (ones S.length) i = sumI (fun x => if x < 0 then 1 else 0) (S.take i)
  | 0, _ => by simp [negTo, sumI]
  | i + 1, h => by
    have e : S.take (i + 1) = S.take i ++ [ix S i] := by rw [ix_get (by omega)]; exact List.take_succ_eq_append_getElem (by omega)
    unfold negTo
    rw [negTo_ones i (by omega), e, sumI_snoc, ones_ix (by omega)]

theorem normC_congr {f g : Int → Int} {V : List Int} {bd : Int} (h : ∀ v ∈ V, f v = g v) : normC f V bd = normC g V bd := by
  unfold normC
  rw [sumI_congr (f := fun v => minI (absI (f v)) bd) (g := fun v => minI (absI (g v)) bd) fun v hv => by rw [h v hv],
    List.map_congr_left (f := litOf f) (g := litOf g) fun v hv => by unfold litOf; rw [h v hv],
    List.map_congr_left (f := fun v => minI (absI (f v)) bd) (g := fun v => minI (absI (g v)) bd) fun v hv => by rw [h v hv]]

theorem normP_fine {U : List Int} (h : ∀ x ∈ U, plitB x = true) (B : Int) : normP U (ones U.length) B = if 65536 < U.length ∨ B < -1099511627776 ∨ 1099511627776 < B then (⟨[], [], 0⟩, 2) else
    normC (fun v => byTo U (ones U.length) v U.length) ((keysOf U).filter fun v => byTo U (ones U.length) v U.length != 0) (B - negTo U (ones U.length) U.length - sumI (fun v => lowI (byTo U (ones U.length) v U.length)) (keysOf U)) := by
  have hp : allR U.length (pokAt U (ones U.length)) = true := allR_true fun j hj => by
    unfold pokAt
    rw [h _ (mem_ix_iff.2 ⟨j, hj, rfl⟩), ones_ix hj]; decide
  unfold normP
  rw [hp]
  by_cases hc : 65536 < U.length ∨ B < -1099511627776 ∨ 1099511627776 < B
  · rw [if_pos (.inr hc), if_pos hc]
  · rw [if_neg (fun h' => h'.elim (fun h1 => h1 (by simp [ones])) hc), if_neg hc, if_neg (by simp)]

/-- The normal form with ones asks nothing of the order. -/
theorem normP_perm {S T : List Int} (hs : S.Nodup) (ht : T.Nodup) (hm : ∀ x, x ∈ S ↔ x ∈ T) (hp : ∀ x ∈ S, plitB x = true) (B : Int) : normP S (ones S.length) B = normP T (ones T.length) B := by
  have hperm := nodup_perm hs ht hm
  have hl := hperm.length_eq
  have hpz : ∀ x ∈ S, x ≠ 0 := fun x hx => by have := hp x hx; unfold plitB at this; rw [decide_eq_true_eq] at this; exact this.1
  have hk : keysOf S = keysOf T := sorted_eqP (keys_sorted S) (keys_sorted T) fun x => by
    rw [mem_keys, mem_keys]
    exact ⟨fun ⟨l, h, e⟩ => ⟨l, (hm l).1 h, e⟩, fun ⟨l, h, e⟩ => ⟨l, (hm l).2 h, e⟩⟩
  have hpos : ∀ v ∈ keysOf S, 0 < v := keys_pos fun j hj => hpz _ (mem_ix_iff.2 ⟨j, hj, rfl⟩)
  have hby : ∀ v ∈ keysOf S, byTo S (ones S.length) v S.length = byTo T (ones T.length) v T.length := fun v hv => by
    have h0 := hpos v hv
    rw [byTo_set hs h0, byTo_set ht h0]
    simp only [hm]
  have hneg : negTo S (ones S.length) S.length = negTo T (ones T.length) T.length := by
    rw [negTo_ones _ (Nat.le_refl _), negTo_ones _ (Nat.le_refl _), List.take_length, List.take_length]
    exact sumI_perm hperm
  rw [normP_fine hp, normP_fine fun x hx => hp x ((hm x).2 hx), hl]
  by_cases hc : 65536 < T.length ∨ B < -1099511627776 ∨ 1099511627776 < B
  · rw [if_pos hc, if_pos hc]
  · rw [if_neg hc, if_neg hc, ← hl, ← hk, hl, hneg.symm.trans (by rw [hl])]
    rw [hl] at hby hneg
    have hf : (keysOf S).filter (fun v => byTo S (ones T.length) v T.length != 0) = (keysOf S).filter (fun v => byTo T (ones T.length) v T.length != 0) := List.filter_congr fun v hv => by rw [hby v hv]
    have hs2 : sumI (fun v => lowI (byTo S (ones T.length) v T.length)) (keysOf S) = sumI (fun v => lowI (byTo T (ones T.length) v T.length)) (keysOf S) := sumI_congr fun v hv => by rw [hby v hv]
    rw [hf, hs2, normC_congr fun v hv => hby v (List.mem_filter.1 hv).1]

theorem refClause_is {L : List Int} (hp : ∀ x ∈ L, plitB x = true) : refClause L = clauseP L := by
  unfold refClause clauseP
  refine normP_perm (onceTo_nodup L _) (sorted_nodup (setL_sorted L)) (fun x => ?_) (fun x hx => ?_) 1
  · rw [onceTo_mem, mem_setL, mem_ix_iff]
  · obtain ⟨j, hj, rfl⟩ := (onceTo_mem _).1 hx
    exact hp _ (mem_ix_iff.2 ⟨j, hj, rfl⟩)

/-- A clause asks nothing of its literals' order. -/
theorem clauseP_set {L M : List Int} (h : ∀ x, x ∈ L ↔ x ∈ M) : clauseP L = clauseP M := by
  unfold clauseP
  rw [sorted_eqP (setL_sorted L) (setL_sorted M) fun x => by rw [mem_setL, mem_setL, h]]

end Go.Proofs.YtfhpfbakoiekpaaGreatDoor
