/- My texts Su26, merged. -/
import Derived.Test.YtoahecjdkgeamaaGreatDoorM17

/- ostlerlaw26.CompleteSupported returns true and writes nothing that was there. -/
namespace Go.Proofs.YtoahecjdkgeamaaGreatDoor
open Go.RowKit

/-! ### The assignment with the given bits -/
def asgB (bits : Int) (n : Nat) : List Int := (List.range n).map fun j => if bitAt bits j = true then 1 else -1
def asF (bits : Int) (k j : Nat) : Int := if j < k then (if bitAt bits j = true then 1 else -1) else 0

theorem asgB_len (bits : Int) (n : Nat) : (asgB bits n).length = n := by simp [asgB]
theorem asgB_ix (bits : Int) {n j : Nat} (hj : j < n) : ix (asgB bits n) j = if bitAt bits j = true then 1 else -1 := by
  unfold ix asgB
  rw [List.getD_eq_getElem?_getD, List.getElem?_map, List.getElem?_range hj]
  rfl
theorem asgB_tot (bits : Int) (n : Nat) : Total (asgB bits n) := fun j hj => by
  rw [asgB_len] at hj
  rw [asgB_ix bits hj]
  split
  · exact .inl rfl
  · exact .inr rfl
theorem asgB_fn (bits : Int) (n : Nat) : fnL n (asF bits n) = (asgB bits n).map (Value.int .i8) := by
  unfold fnL asgB
  rw [List.map_map]
  refine List.map_congr_left fun j hj => ?_
  have := List.mem_range.1 hj
  show Value.int .i8 (asF bits n j) = Value.int .i8 _
  unfold asF
  rw [if_pos this]

theorem asgB_agree {p : GP} (bits : Int) {n : Nat} (hn : p.n + (p.rules.length : Int) = n) (h0 : 0 ≤ p.n) : AgreeM p (asgB bits n) (subL bits p.n.toNat) := fun x h1 h2 => by
  rw [subL_mem bits p.n.toNat x h1 (by omega), asgB_ix bits (show x - 1 < n by omega)]
  split <;> simp_all

theorem all_comp {p : GP} (hv : validE p = 0) (bits : Int) {n : Nat} (hn : p.n + (p.rules.length : Int) = n) :
    allR (compL p).length (fun j => holdsC (ixC (compL p) j) (asgB bits n)) = (suppB p (subL bits p.n.toNat) && decide (asgB bits n = extA p (subL bits p.n.toNat))) := by
  have h0 := (validP hv).n
  have ht := asgB_tot bits n
  have hN : p.n + (p.rules.length : Int) = (asgB bits n).length := by rw [asgB_len]; exact hn
  have h1 := comp_supported hv (subL_set bits h0.1) ht hN (asgB_agree bits hn h0.1)
  have h2 := all_holds hv ht hN
  rw [Bool.eq_iff_iff, Bool.and_eq_true, decide_eq_true_eq, ← h1, ← h2]
  constructor
  · intro h c hc
    obtain ⟨j, hj, rfl⟩ := List.mem_iff_getElem.1 hc
    have := allR_get h j hj
    unfold ixC at this
    rw [List.getD_eq_getElem?_getD, List.getElem?_eq_getElem hj] at this
    exact this
  · intro h
    refine allR_true fun j hj => ?_
    refine h _ ?_
    unfold ixC
    rw [List.getD_eq_getElem?_getD, List.getElem?_eq_getElem hj]
    exact List.getElem_mem hj

theorem sh_wrap : ∀ N : Nat, N < 13 → wrap64 (2 ^ N) = ((2 ^ N : Nat) : Int) ∧ 2 ^ N ≤ 4096 := by
  intro N hN
  have h2 : 2 ^ N ≤ 2 ^ 12 := Nat.pow_le_pow_right (by omega) (by omega)
  have h3 : (2 : Int) ^ N = ((2 ^ N : Nat) : Int) := by push_cast; rfl
  refine ⟨?_, by omega⟩
  rw [h3]
  generalize 2 ^ N = T at *
  unfold wrap64
  omega

/-- What the calls of the last comparison leave. -/
def su26Φ (bd : Bool) (E : List Int) (bb : Bool) (i : Nat) (_ : List Value) (v : Value) (_ _ : Nat) (w : World) : Prop :=
  match i with
  | 2 => v = .bool bd
  | 5 => v = .bool true
  | 10 => (∃ a n c, v = .slice a n c) ∧ Bytes8 w v E
  | _ => v = .bool bb
theorem su26Φ_later (bd : Bool) (E : List Int) (bb : Bool) : ∀ i args v lo hi w w', su26Φ bd E bb i args v lo hi w → Below w.heap.size w w' → su26Φ bd E bb i args v lo hi w' := by
  intro i args v lo hi w w' h hb
  unfold su26Φ at *
  split at h <;> first | exact h | exact ⟨h.1, h.2.below hb⟩


def Su26Rel (p : GP) (w W : World) (vn vs vr vm : Value) (n : Nat) (i : Value) (wx : World) : Prop :=
  ∃ k : Nat, k ≤ n ∧ i = .int .i64 k ∧ LwSt w p vn vs vr vm wx ∧ Below W.heap.size W wx
def Su26Rel2 (W : World) (bits : Int) (n b : Nat) (i : Value) (wx : World) : Prop :=
  ∃ k : Nat, k ≤ n ∧ i = .int .i64 k ∧ Blk wx b (fnL n (asF bits k)) 49 ∧ Below W.heap.size W wx

set_option maxHeartbeats 4000000 in
set_option maxRecDepth 100000 in
theorem su26_walk (vp : Value) (p : GP) (w : World) (hP : ProgIs w vp p) :
    Calls Tryz.prog 8 #[vp] w fun e w' => e = .returned (.bool true) ∧ Below w.heap.size w w' := by
  have hP0 := hP
  obtain ⟨vn, vs, vr, vm, rfl, hPS⟩ := hP
  have hpn := hPS.n
  unfold InI at hpn
  obtain ⟨ar, cr, rfl, -, hlr, -, -⟩ := hPS.rules.form
  have HS0 := Lib.hid (LwSt.start hP0)
  clear hP0 hPS
  go_enter Tryz.func8, Tryz.ntmps8
  go_upto_region 1 with fail
  have kx0 := HS0.out.box.cell
  generalize w.alloc (.cells #[.int .i64 p.n, vn, vs, .slice ar p.rules.length cr, vm] 27) = W at *
  cases hsm : smallB p with
  | false =>
    have HSM := Lib.hid hsm
    clear hsm
    go_wp2_with (first
      | (go_at_call 26; (with_reducible refine (small_any _ p _ HS0.out.prog).mono ?_); rintro e w1 ⟨h1, hb1⟩; rw [HSM.out] at h1; subst h1; have HS1 := Lib.hid (HS0.out.on hb1); have kx1 := HS1.out.box.cell; clear hb1)
      | (go_at_call 10; (with_reducible refine (awake26_any _).mono ?_); rintro e w9 ⟨rfl, hb9⟩; have HS9 := Lib.hid (HS1.out.on hb9); have kx9 := HS9.out.box.cell; clear hb9))
    go_ret
    exact ⟨rfl, HS9.out.below⟩
  | true =>
    have HSM := Lib.hid hsm
    have hsm2 := hsm
    unfold smallB at hsm2
    simp only [Bool.and_eq_true, decide_eq_true_eq] at hsm2
    obtain ⟨⟨⟨-, h6⟩, h7⟩, hv⟩ := hsm2
    clear hsm
    have HV := Lib.hid hv
    have hn0 := (validP hv).n
    obtain ⟨N, hN⟩ : ∃ N : Nat, p.n + (p.rules.length : Int) = N := ⟨(p.n + p.rules.length).toNat, by omega⟩
    have HN := Lib.hid hN
    have hN12 : N ≤ 12 := by omega
    have HVA : Hid (varsI p = N) := Lib.hid (by unfold varsI; rw [if_pos hv]; exact hN)
    have hne : ((N : Int) != p.n + (p.rules.length : Int)) = false := by simp [hN]
    obtain ⟨hsh, hT⟩ := sh_wrap N (by omega)
    obtain ⟨T, hTT⟩ : ∃ T : Nat, 2 ^ N = T := ⟨_, rfl⟩
    rw [hTT] at hsh hT
    have hmk : ∀ w : World, (Instr.makeSlice 42 (.int .i64 (N : Int)) (.int .i64 (N : Int))).run Tryz.prog w = .ok (.slice (some ⟨w.heap.size, 0, none⟩) N N) (w.alloc (.cells (madeCells #[.int .i8 0] N) 49)) := fun w => run_make_row' _ _ _ _ Tryz.underlying42 info8 rfl .i64 .i64 N (by omega) (by omega) w
    clear hv hN hTT
    go_upto_region 8 with (first
      | (go_at_call 26; (with_reducible refine (small_any _ p _ HS0.out.prog).mono ?_); rintro e w1 ⟨h1, hb1⟩; rw [HSM.out] at h1; subst h1; have HS1 := Lib.hid (HS0.out.on hb1); have kx1 := HS1.out.box.cell; clear hb1)
      | (go_at_call 12; (with_reducible refine (compl_valid HV.out _ w1 HS1.out.prog rfl).mono ?_); rintro e w2 ⟨ao, co, rfl, ho, hb2⟩; have HS2 := Lib.hid (HS1.out.on hb2); have kx2 := HS2.out.box.cell; have HO := Lib.hid ho; clear hb2 ho)
      | (go_at_call 14; (with_reducible refine (varsI_any _ p w2 HS2.out.prog).mono ?_); rintro e w3 ⟨e3, hb3⟩; rw [HVA.out] at e3; subst e3; have HS3 := Lib.hid (HS2.out.on hb3); have kx3 := HS3.out.box.cell; have HO3 := Lib.hid (HO.out.below hb3); clear hb3))
    clear kx0 kx1 kx2 kx3
    rw [hsh]
    clear hsh
    go_loopw [35] (fun i wx => Su26Rel p w w3 vn vs (.slice ar p.rules.length cr) vm T i wx) (fun i _ => T - (intOf i).toNat)
    case atStart => exact ⟨0, Nat.zero_le _, rfl, HS3.out, Below.refl _ _⟩
    case round =>
      obtain ⟨t, ht, rfl, hst, hb4⟩ := hrel
      have HST := Lib.hid hst
      have HB4 := Lib.hid hb4
      have hzt : w.heap.size < wr.heap.size := hst.box.lt
      clear hst hb4
      by_cases hlt : t < T
      · go_upto_region 11 with fail
        have hst5 : Blk (wr.alloc (.cells (madeCells #[.int .i8 0] N) 49)) wr.heap.size (fnL N (asF t 0)) 49 := by
          have := Blk.new wr (List.replicate N (Value.int .i8 0)) 49
          rw [← made_list] at this
          have e : fnL N (asF t 0) = List.replicate N (Value.int .i8 0) := by
            unfold fnL asF
            apply List.ext_getElem (by simp)
            intro i h1 h2; simp
          rw [e]; exact this
        have hal := bal (Below.refl wr.heap.size wr) (.cells (madeCells #[.int .i8 0] N) 49)
        have HS5 := Lib.hid (HST.out.on hal)
        have HB5 := Lib.hid (bon HB4.out hal)
        have HST5 := Lib.hid hst5
        have HAL5 := Lib.hid hal
        have hbN : wr.heap.size < (wr.alloc (.cells (madeCells #[.int .i8 0] N) 49)).heap.size := by simp
        clear hst5 hal hmk
        obtain ⟨nb, hnb⟩ : ∃ nb, wr.heap.size = nb := ⟨_, rfl⟩
        rw [hnb] at hbN HST5 hzt
        generalize wr.alloc (.cells (madeCells #[.int .i8 0] N) 49) = W5 at *
        rw [hnb]
        obtain ⟨wo, rfl⟩ : ∃ wo : World, wo = wr := ⟨_, rfl⟩
        go_upto_region 12 with fail
        go_loopw [42] (fun i wx => Su26Rel2 wo t N nb i wx) (fun i _ => N - (intOf i).toNat)
        case atStart => exact ⟨0, Nat.zero_le _, rfl, HST5.out, HAL5.out⟩
        case round =>
          obtain ⟨i, hi, rfl, hbk, hb6⟩ := hrel
          have HBK := Lib.hid hbk
          have HB6 := Lib.hid hb6
          by_cases hlt2 : i < N
          · have kc := (hbk.cell i).trans (fnL_at hlt2)
            have kf := hbk.free i
            have hzz : asF t i i = 0 := by unfold asF; rw [if_neg (Nat.lt_irrefl i)]
            rw [hzz] at kc
            have hmin : min i 64 = i := Nat.min_eq_left (by omega)
            have HW : Hid (∀ v : Int, v = (if bitAt t i = true then 1 else -1) → Blk (wr.setCell ⟨nb, i, none⟩ (.int .i8 v)) nb (fnL N (asF t (i + 1))) 49 ∧ Below wo.heap.size wo (wr.setCell ⟨nb, i, none⟩ (.int .i8 v))) := Lib.hid fun v hv => by
              refine ⟨?_, hb6.setCell (p := ⟨nb, i, none⟩) (by show wo.heap.size ≤ nb; omega) _⟩
              have h1 := hbk.set i (.int .i8 v)
              rw [fnL_set] at h1
              rw [fnL_congr (G := fun j => if j = i then v else asF t i j) fun j hj => by
                unfold asF
                by_cases e : j = i
                · subst e; rw [if_pos (by omega), if_pos rfl, hv]
                · rw [if_neg e]
                  by_cases e2 : j < i
                  · rw [if_pos (by omega), if_pos e2]
                  · rw [if_neg (by omega), if_neg e2]]
              exact h1
            have hbv : Go.bits .and .i64 ((t : Int) / 2 ^ i) 1 = (if bitAt t i = true then 1 else 0) := by
              rw [and_one_i64]
              unfold bitAt
              simp only [decide_eq_true_eq]
              split <;> omega
            clear hbk hb6
            cases hb : bitAt t i with
            | true =>
              rw [hb] at hbv HW
              simp only [if_true] at hbv
              go_wp2
              first
                | (go_roundw
                   case rel => (exact ⟨i + 1, hlt2, by go_num, (HW.out 1 (by simp)).1, (HW.out 1 (by simp)).2⟩)
                   case measure => (simp [intOf]; omega))
                | (refine ⟨?_, ?_⟩
                   · (exact ⟨i + 1, hlt2, by go_num, (HW.out 1 (by simp)).1, (HW.out 1 (by simp)).2⟩)
                   · (simp [intOf]; omega))
            | false =>
              rw [hb] at hbv HW
              simp only [Bool.false_eq_true, if_false] at hbv
              go_wp2
              first
                | (go_roundw
                   case rel => (exact ⟨i + 1, hlt2, by go_num, (HW.out (-1) (by simp)).1, (HW.out (-1) (by simp)).2⟩)
                   case measure => (simp [intOf]; omega))
                | (refine ⟨?_, ?_⟩
                   · (exact ⟨i + 1, hlt2, by go_num, (HW.out (-1) (by simp)).1, (HW.out (-1) (by simp)).2⟩)
                   · (simp [intOf]; omega))
          · obtain rfl : i = N := by omega
            have hy : Bytes8 wr (.slice (some ⟨nb, 0, none⟩) i i) (asgB t i) := by
              rw [asgB_fn] at hbk
              have := Blk.bytes8 hbk (fit8 fun x hx => by
                obtain ⟨j, -, rfl⟩ := List.mem_map.1 hx
                split <;> omega) (by rw [asgB_len]; omega)
              rwa [asgB_len] at this
            have HY := Lib.hid hy
            have HS6 := Lib.hid (HST.out.on hb6)
            have HO6 := Lib.hid ((HO3.out.below HB4.out).below hb6)
            have HB6' := Lib.hid (bon HB4.out hb6)
            have kx6 := HS6.out.box.cell
            have HALL := Lib.hid (all_comp HV.out t HN.out)
            have HSQ := Lib.hid (subL_set t hn0.1)
            clear hbk hb6 hy
            go_upto_region 17 with (go_at_call 23; (with_reducible refine (subset_int p.n t ⟨hn0.1, by omega⟩ wr).mono ?_); rintro e w7 ⟨vS, rfl, hq, hb7⟩; obtain ⟨aS, cS, rfl⟩ := hq.slen; have HS7 := Lib.hid (HS6.out.on hb7); have HI7 := Lib.hid (hq.ints (by have := subL_len t p.n.toNat; omega)); have HY7 := Lib.hid (HY.out.below hb7); have HO7 := Lib.hid (HO6.out.below hb7); have HB7 := Lib.hid (bon HB6'.out hb7); clear hb7 hq)
            have kp7 : ∀ e : Ext w7, ∀ o, e.world.cell? ⟨w.heap.size, o, none⟩ = _ := fun e o => (bcell e.below _ o HS7.out.box.lt).trans (HS7.out.box.cell o)
            have HSP : Hid ((decide (validE p = 0) && (setQ p.n (subL t p.n.toNat) && suppB p (subL t p.n.toNat))) = suppB p (subL t p.n.toNat)) := Lib.hid (by rw [decide_eq_true HV.out, HSQ.out]; rfl)
            generalize subL t p.n.toNat = S at *
            have HAC : Hid (∀ W, Below w7.heap.size w7 W → Calls Tryz.prog 28 #[.slice ao (compL p).length co, .slice (some ⟨nb, 0, none⟩) i i] W fun e' w' => e' = .returned (.bool (suppB p S && decide (asgB t i = extA p S))) ∧ Below W.heap.size W w') := Lib.hid fun W hW => (all26_any _ _ (compL p) (asgB t i) W (HO7.out.below hW) (HY7.out.below hW)).mono fun e w' ⟨h1, h2⟩ => ⟨by rw [HALL.out] at h1; exact h1, h2⟩
            have HSC : Hid (∀ W, Below w7.heap.size w7 W → Calls Tryz.prog 20 #[.agg #[.int .i64 p.n, vn, vs, .slice ar p.rules.length cr, vm], .slice aS S.length cS] W fun e' w' => e' = .returned (.bool (suppB p S)) ∧ Below W.heap.size W w') := Lib.hid fun W hW => (supported_any _ _ p S W (HS7.out.prog.below hW) (HI7.out.below hW)).mono fun e w' ⟨h1, h2⟩ => ⟨by rw [HSP.out] at h1; exact h1, h2⟩
            cases hsb : suppB p S with
            | false =>
              rw [hsb, Bool.false_and] at HAC
              rw [hsb] at HSC
              clear hsb
              refine wp_region_ext (by kernel_rfl) (by kernel_rfl) ?_
              repeat (go_big_quiet_step ((first | (go_at_call 28; exact Calls.ext_of (HAC.out _ (Ext.below _))) | (go_at_call 20; exact Calls.ext_of (HSC.out _ (Ext.below _))))))
              refine wpQuiet_nil ?_
              intro w9 hw'
              obtain ⟨e9, he9⟩ := hw'
              have hb9 := e9.below
              rw [← he9] at hb9
              clear he9 e9
              try dsimp only
              go_wp2
              first
                | (go_roundw
                   case rel => (exact ⟨t + 1, hlt, by go_num, HS7.out.on hb9, bon HB7.out hb9⟩)
                   case measure => (simp [intOf]; omega))
                | (refine ⟨?_, ?_⟩
                   · (exact ⟨t + 1, hlt, by go_num, HS7.out.on hb9, bon HB7.out hb9⟩)
                   · (simp [intOf]; omega))
            | true =>
              rw [hsb, Bool.true_and] at HAC
              rw [hsb] at HSC
              clear hsb
              obtain ⟨bd, hbd⟩ : ∃ bd, decide (asgB t i = extA p S) = bd := ⟨_, rfl⟩
              rw [hbd] at HAC
              have HBD := Lib.hid hbd
              clear hbd
              refine wp_region_perm' (su26Φ bd (extA p S) bd) (fun i => i == 2 || i == 5 || i == 10 || i == 11) (by kernel_rfl) (by kernel_rfl) (by kernel_rfl) (su26Φ_later _ _ _) ?_
              iterate 2 (refine walkP_calm rfl rfl rfl (fun K hK => ?_); go_big_quiet_op; refine hK _ ?_; clear hK K)
              refine walkP_mem rfl rfl (fun wa hba hFa => ?_) (fun v lo hi l g h => ?_)
              · go_simp
                exact (HAC.out _ hba).mono (fun e w2 ⟨h1, h2⟩ => ⟨_, h1, h2, rfl⟩)
              obtain ⟨_, rfl⟩ := h
              simp only [Act.put, List.setIfInBounds_toArray, List.set_cons_succ, List.set_cons_zero]
              iterate 2 (refine walkP_calm rfl rfl rfl (fun K hK => ?_); go_big_quiet_op; refine hK _ ?_; clear hK K)
              refine walkP_mem rfl rfl (fun wa hba hFa => ?_) (fun v lo hi l g h => ?_)
              · go_simp
                exact (HSC.out _ hba).mono (fun e w2 ⟨h1, h2⟩ => ⟨_, h1, h2, rfl⟩)
              obtain ⟨_, rfl⟩ := h
              simp only [Act.put, List.setIfInBounds_toArray, List.set_cons_succ, List.set_cons_zero]
              iterate 4 (refine walkP_calm rfl rfl rfl (fun K hK => ?_); go_big_quiet_op; refine hK _ ?_; clear hK K)
              refine walkP_mem rfl rfl (fun wa hba hFa => ?_) (fun v lo hi l g h => ?_)
              · go_simp
                exact (extend_any _ _ p S _ (HS7.out.prog.below hba) (HI7.out.below hba)).mono (fun e w2 ⟨a, c, h1, h2, h3⟩ => ⟨_, h1, h3, ⟨_, _, _, rfl⟩, h2⟩)
              obtain ⟨_, ⟨_, _, _, rfl⟩, -⟩ := h
              simp only [Act.put, List.setIfInBounds_toArray, List.set_cons_succ, List.set_cons_zero]
              refine walkP_mem rfl rfl (fun wa hba hFa => ?_) (fun v lo hi l g h => ?_)
              · have f10 := hFa _ (.head _) (by kernel_rfl)
                obtain ⟨-, f10⟩ := f10
                go_simp
                exact (bits_any _ _ (asgB t i) (extA p S) _ (HY7.out.below hba) f10).mono (fun e w2 ⟨h1, h2⟩ => ⟨_, h1.trans (by rw [HBD.out]), h2, rfl⟩)
              obtain ⟨_, rfl⟩ := h
              simp only [Act.put, List.setIfInBounds_toArray, List.set_cons_succ, List.set_cons_zero]
              iterate 2 (refine walkP_calm rfl rfl rfl (fun K hK => ?_); go_big_quiet_op; refine hK _ ?_; clear hK K)
              intro wx hbx hF hI hP
              have HBX := Lib.hid hbx
              have hbb : (bd != bd) = false := by simp
              clear hF hI hP hbx
              go_wp2_with fail
              first
                | (go_roundw
                   case rel => (exact ⟨t + 1, hlt, by go_num, HS7.out.on HBX.out, bon HB7.out HBX.out⟩)
                   case measure => (simp [intOf]; omega))
                | (refine ⟨?_, ?_⟩
                   · (exact ⟨t + 1, hlt, by go_num, HS7.out.on HBX.out, bon HB7.out HBX.out⟩)
                   · (simp [intOf]; omega))
      · obtain rfl : t = T := by omega
        go_wp2_with (go_at_call 10; (with_reducible refine (awake26_any _).mono ?_); rintro e w9 ⟨rfl, hb9⟩; have HS9 := Lib.hid (HST.out.on hb9); clear hb9)
        go_ret
        exact ⟨rfl, HS9.out.below⟩

theorem supported26_law {W : World} {vp : Value} {p : GP} (hP : ProgIs W vp p) :
    Calls Tryz.prog 8 #[vp] W fun e W' => e = .returned (.bool true) ∧ Below W.heap.size W W' :=
  su26_walk vp p W hP

end Go.Proofs.YtoahecjdkgeamaaGreatDoor
