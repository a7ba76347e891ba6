/- My texts Vld, DelR, Mk0, Rea1, Rea2, merged. -/
import Derived.Test.YtjodocheiejkeaaGreatDoorM07
import Derived.Test.YtjodocheiejkeaaGreatDoorM24
import Derived.Test.YtjodocheiejkeaaGreatDoorM23
import Derived.Test.YtjodocheiejkeaaGreatDoorM06
import Derived.Test.YtjodocheiejkeaaGreatDoorM22
import Derived.Test.YtjodocheiejkeaaGreatDoorM04
import Derived.Test.YtjodocheiejkeaaGreatDoorM03
import Derived.Test.YtjodocheiejkeaaGreatDoorM00
import Derived.Test.YtjodocheiejkeaaGreatDoorProg
import Derived.WalkKit
import Derived.Lib.Hide
import Derived.Deep.QuietTactic
import Derived.BigQuiet
import Derived.Lib.Bytealg
import Derived.MapKept
import Derived.Maps.OwnSet
import Derived.Maps.OwnOps
import Derived.Test.YtjodocheiejkeaaGreatDoorM02
import Derived.WalkSpells
import Derived.Lib.SliceRun
import Derived.Test.YtjodocheiejkeaaGreatDoorM01
import Derived.Deep.AppendLies
import Derived.Deep.DeepCutAuto
import Derived.RangeFuncNested
import Derived.RangeFuncBound
import Derived.RangeFuncCalls
import Derived.RangeFuncLeaves
import Derived.OwnWalkIn
import Derived.TacticsInMore
import Derived.LoopNIn
import Derived.LoopIn
import Derived.Stop.RegionWithIn
import Derived.Shelf.Abstract
import Derived.Test.YtjodocheiejkeaaGreatDoorM11
import Derived.Test.YtjodocheiejkeaaGreatDoorM08
import Derived.Sort.QuietThIn
import Derived.Laws.EntriesVeiled
import Derived.Test.YtjodocheiejkeaaGreatDoorM12

namespace Go.Proofs.YtjodocheiejkeaaGreatDoor
open Go.RowKit
set_option maxHeartbeats 1000000 in
theorem v2_any (l : Int) (fb cb : Nat) (L : List Int) (w : World) (hf : Blk w fb [.func (.func 54) #[] #[.pointer (some ⟨cb, 0, none⟩)]] 77) (h : InV w cb L) (hl : 1 ≤ l.natAbs ∧ l.natAbs ≤ 1000000) :
    Calls Tryz.prog 56 #[.int .i64 l, .pointer (some ⟨fb, 0, none⟩)] w fun e w' => e = .returned (.bool (inB L (-l))) ∧ w = w' := by
  have k0 := hf.cell 0
  have H := Lib.hid h
  have hl2 : 1 ≤ (-l).natAbs ∧ (-l).natAbs ≤ 1000000 := by omega
  have HL2 := Lib.hid hl2
  clear hf h hl2
  go_enter Tryz.func56, Tryz.ntmps56
  go_wp2_with (go_at_call 54; (with_reducible refine (inV_any (-l) cb L _ H.out HL2.out).mono ?_); rintro e w1 ⟨rfl, rfl⟩)
  go_ret
  exact ⟨rfl, rfl⟩
set_option maxHeartbeats 1000000 in
theorem idx_v2 (v : Value) (l : List Int) (w : World) (h : Ints w v l) (g : Nat → Bool) (cap : Value)
    (hg : ∀ w', Below w.heap.size w w' → ∀ j, j < l.length → Calls Tryz.prog 56 #[.int .i64 (ix l j), cap] w' fun e w'' => e = .returned (.bool (g j)) ∧ Below w'.heap.size w' w'') :
    Calls Tryz.prog 83 #[v, .func (.func 56) #[] #[cap]] w fun e w' => ∃ r, e = .returned (.int .i64 r) ∧ IxP l.length g r ∧ Below w.heap.size w w' := by
  obtain ⟨a1, c1, rfl, -, hl1, -, hcell⟩ := h.form
  have HG := Lib.hid hg
  clear h hg
  go_enter Tryz.func83, Tryz.ntmps83
  go_wp2
  go_loopw [8] (fun i wx => IxR l.length g w i wx) (fun i _ => l.length - (intOf i).toNat)
  case atStart => exact ⟨0, by omega, rfl, fun j hj => absurd hj (Nat.not_lt_zero _), Below.refl _ _⟩
  case round =>
    obtain ⟨k, hk, rfl, hall, hb⟩ := hrel
    have HA := Lib.hid hall
    clear hall
    by_cases hlt : k < l.length
    · obtain ⟨b, off, rfl, hbl, hc⟩ := hcell (by omega)
      have hk1 := (bcell hb _ _ hbl).trans (hc k hlt)
      clear hc hcell
      cases g1 : g k with
      | true =>
        have HK : Hid (_ = true) := Lib.hid g1
        have HC := Lib.hid (HG.out _ hb k hlt)
        rw [g1] at HC
        clear g1
        go_wp2_with (go_at_call 56; refine (HC.out).mono ?_; rintro e w1 ⟨rfl, hb1⟩)
        go_ret
        exact ⟨_, rfl, .inr ⟨k, hlt, rfl, HK.out, HA.out⟩, bon hb hb1⟩
      | false =>
        have HN := Lib.hid (lt_succ_all HA.out g1)
        have HC := Lib.hid (HG.out _ hb k hlt)
        rw [g1] at HC
        clear g1
        go_wp2_with (go_at_call 56; refine (HC.out).mono ?_; rintro e w1 ⟨rfl, hb1⟩)
        first
          | (go_roundw
             case rel => (exact ⟨k + 1, by omega, by go_num, HN.out, bon hb hb1⟩)
             case measure => (simp [intOf]; omega))
          | (refine ⟨?_, ?_⟩
             · (exact ⟨k + 1, by omega, by go_num, HN.out, bon hb hb1⟩)
             · (simp [intOf]; omega))
    · have HN : Hid (∀ j, j < l.length → g j = false) := Lib.hid (fun j hj => HA.out j (by omega))
      go_wp2
      go_ret
      exact ⟨_, rfl, .inl ⟨rfl, HN.out⟩, hb⟩
set_option maxHeartbeats 1000000 in
theorem ctn_v2 (v : Value) (l : List Int) (w : World) (h : Ints w v l) (g : Nat → Bool) (cap : Value)
    (hg : ∀ w', Below w.heap.size w w' → ∀ j, j < l.length → Calls Tryz.prog 56 #[.int .i64 (ix l j), cap] w' fun e w'' => e = .returned (.bool (g j)) ∧ Below w'.heap.size w' w'') :
    Calls Tryz.prog 42 #[v, .func (.func 56) #[] #[cap]] w fun e w' => e = .returned (.bool (anyR l.length g)) ∧ Below w.heap.size w w' := by
  have HI := Lib.hid (idx_v2 v l w h g cap hg)
  obtain ⟨a1, c1, rfl, -⟩ := h.form
  clear h hg
  go_enter Tryz.func42, Tryz.ntmps42
  go_wp2_with (go_at_call 83; refine (HI.out).mono ?_; rintro e w1 ⟨r, rfl, hr, hb1⟩; have HR := Lib.hid hr; clear hr)
  go_ret
  exact ⟨ret_bool HR.out.any, hb1⟩
def validC (p : GP) (S : List Int) (c : PBC) : Bool := decide (validE p = 0) && (setB' p.n S && (pbV c && (decide (c.bound = 1) && (anyR S.length (fun j => inB c.lits (-(ix S j))) && allExcV p S c.lits))))
theorem setB_pos {n : Int} {S : List Int} (h : setB' n S = true) {j : Nat} (hj : j < S.length) : 1 ≤ ix S j ∧ ix S j ≤ n := by
  unfold setB' at h
  rw [Bool.and_eq_true] at h
  have := allR_get h.1 j hj
  unfold setTo at this
  simp only [Bool.and_eq_true, decide_eq_true_eq] at this
  exact this.1
set_option maxHeartbeats 4000000 in
set_option maxRecDepth 100000 in
theorem lval_any (vp vset vc : Value) (p : GP) (S : List Int) (c : PBC) (w : World) (hP : ProgIs w vp p) (hS : Ints w vset S) (hC : PBIs w vc c) :
    Calls Tryz.prog 19 #[vp, vset, vc] w fun e w' => e = .returned (.bool (validC p S c)) ∧ Below w.heap.size w w' := by
  have hP0 := hP
  have hC0 := hC
  obtain ⟨vn, vs, vr, vm, rfl, hPS⟩ := hP
  obtain ⟨a1, c1, rfl, -, hl1, -, -⟩ := hPS.rules.form
  obtain ⟨a4, c4, rfl, -, hl4, -, -⟩ := hS.form
  obtain ⟨vl, vk, rfl, hL, hK, hbd⟩ := hC
  obtain ⟨a5, c5, rfl, -⟩ := hL.form
  obtain ⟨a6, c6, rfl, -⟩ := hK.form
  have hal : Below w.heap.size w ((w.alloc (.cells #[.int .i64 p.n, vn, vs, .slice a1 p.rules.length c1, vm] 27)).alloc (.cells #[.slice a5 c.lits.length c5, .slice a6 c.coefs.length c6, .int .i64 c.bound] 46)) := bal (bal (Below.refl _ _) _) _
  have hb1 := (Blk.new w [.int .i64 p.n, vn, vs, .slice a1 p.rules.length c1, vm] 27).alloc (.cells #[.slice a5 c.lits.length c5, .slice a6 c.coefs.length c6, .int .i64 c.bound] 46)
  have hb2 := Blk.new2 w (.cells #[.int .i64 p.n, vn, vs, .slice a1 p.rules.length c1, vm] 27) [.slice a5 c.lits.length c5, .slice a6 c.coefs.length c6, .int .i64 c.bound] 46
  have HP := Lib.hid (hP0.below hal)
  have HS := Lib.hid (hS.below hal)
  have HC := Lib.hid (hC0.below hal)
  have HU : Hid (InV _ (w.heap.size + 1) c.lits) := Lib.hid ⟨_, _, _, hb2, hL.below hal⟩
  have HAL := Lib.hid hal
  have HBK := Lib.hid hb1
  have HBC := Lib.hid hb2
  unfold InI at hbd
  clear hP0 hPS hS hC0 hL hK hal hb1 hb2
  go_enter Tryz.func19, Tryz.ntmps19
  go_upto_region 1 with fail
  have kx := HBK.out.cell
  have kc := HBC.out.cell
  generalize (w.alloc (.cells #[.int .i64 p.n, vn, vs, .slice a1 p.rules.length c1, vm] 27)).alloc (.cells #[.slice a5 c.lits.length c5, .slice a6 c.coefs.length c6, .int .i64 c.bound] 46) = W at *
  have HF : Hid (validC p S c = (decide (validE p = 0) && (setB' p.n S && (pbV c && (decide (c.bound = 1) && (anyR S.length (fun j => inB c.lits (-(ix S j))) && allExcV p S c.lits)))))) := Lib.hid rfl
  by_cases hv : validE p = 0
  · have HV := Lib.hid hv
    have HOK : Hid (∀ k, k < p.rules.length → SUok (supAt p S k)) := Lib.hid (fun k hk => supAt_ok hv S hk)
    have HN : Hid (p.n ≤ 1000000) := Lib.hid (by have := (validP hv).n; omega)
    rw [decide_eq_true hv, Bool.true_and] at HF
    clear hv
    cases h2 : setB' p.n S with
    | false =>
      rw [h2, Bool.false_and] at HF
      have HI := Lib.hid h2
      clear h2
      go_wp2_with (first | (go_at_call 22; (with_reducible refine (valid_any _ p W HP.out).mono ?_); rintro e w1 ⟨he, hb1⟩; rw [HV.out] at he; subst he; have HB1 := Lib.hid hb1; have kx1 := fun o => (bcell hb1 _ o HBK.out.lt).trans (HBK.out.cell o); have kc1 := fun o => (bcell hb1 _ o HBC.out.lt).trans (HBC.out.cell o); clear hb1) | (go_at_call 46; (with_reducible refine (isSet_any _ _ p S _ (HP.out.below HB1.out) (HS.out.below HB1.out)).mono ?_); rintro e w2 ⟨he, hb2⟩; rw [HI.out] at he; subst he; have HB2 := Lib.hid (bon HB1.out hb2); have kx2 := fun o => (bcell HB2.out _ o HBK.out.lt).trans (HBK.out.cell o); have kc2 := fun o => (bcell HB2.out _ o HBC.out.lt).trans (HBC.out.cell o); clear hb2))
      go_ret
      exact ⟨ret_bool HF.out.symm, HAL.out.trans (HB2.out.mono HAL.out.size)⟩
    | true =>
      rw [h2, Bool.true_and] at HF
      have HI := Lib.hid h2
      clear h2
      cases h3 : pbV c with
      | false =>
        rw [h3, Bool.false_and] at HF
        have HPV := Lib.hid h3
        clear h3
        go_wp2_with (first | (go_at_call 22; (with_reducible refine (valid_any _ p W HP.out).mono ?_); rintro e w1 ⟨he, hb1⟩; rw [HV.out] at he; subst he; have HB1 := Lib.hid hb1; have kx1 := fun o => (bcell hb1 _ o HBK.out.lt).trans (HBK.out.cell o); have kc1 := fun o => (bcell hb1 _ o HBC.out.lt).trans (HBC.out.cell o); clear hb1) | (go_at_call 46; (with_reducible refine (isSet_any _ _ p S _ (HP.out.below HB1.out) (HS.out.below HB1.out)).mono ?_); rintro e w2 ⟨he, hb2⟩; rw [HI.out] at he; subst he; have HB2 := Lib.hid (bon HB1.out hb2); have kx2 := fun o => (bcell HB2.out _ o HBK.out.lt).trans (HBK.out.cell o); have kc2 := fun o => (bcell HB2.out _ o HBC.out.lt).trans (HBC.out.cell o); clear hb2) | (go_at_call 53; (with_reducible refine (pbValid_any _ c _ (HC.out.below HB2.out)).mono ?_); rintro e w3 ⟨he, hb3⟩; rw [HPV.out] at he; subst he; have HB3 := Lib.hid (bon HB2.out hb3); have kx3 := fun o => (bcell HB3.out _ o HBK.out.lt).trans (HBK.out.cell o); have kc3 := fun o => (bcell HB3.out _ o HBC.out.lt).trans (HBC.out.cell o); clear hb3))
        go_ret
        exact ⟨ret_bool HF.out.symm, HAL.out.trans (HB3.out.mono HAL.out.size)⟩
      | true =>
        rw [h3, Bool.true_and] at HF
        have HPV := Lib.hid h3
        clear h3
        by_cases h4 : c.bound = 1
        · rw [decide_eq_true h4, Bool.true_and] at HF
          have hbe : (c.bound != 1) = false := by simp [h4]
          have HB4E := Lib.hid h4
          clear h4
          go_upto_region 4 with (first | (go_at_call 22; (with_reducible refine (valid_any _ p W HP.out).mono ?_); rintro e w1 ⟨he, hb1⟩; rw [HV.out] at he; subst he; have HB1 := Lib.hid hb1; have kx1 := fun o => (bcell hb1 _ o HBK.out.lt).trans (HBK.out.cell o); have kc1 := fun o => (bcell hb1 _ o HBC.out.lt).trans (HBC.out.cell o); clear hb1) | (go_at_call 46; (with_reducible refine (isSet_any _ _ p S _ (HP.out.below HB1.out) (HS.out.below HB1.out)).mono ?_); rintro e w2 ⟨he, hb2⟩; rw [HI.out] at he; subst he; have HB2 := Lib.hid (bon HB1.out hb2); have kx2 := fun o => (bcell HB2.out _ o HBK.out.lt).trans (HBK.out.cell o); have kc2 := fun o => (bcell HB2.out _ o HBC.out.lt).trans (HBC.out.cell o); clear hb2) | (go_at_call 53; (with_reducible refine (pbValid_any _ c _ (HC.out.below HB2.out)).mono ?_); rintro e w3 ⟨he, hb3⟩; rw [HPV.out] at he; subst he; have HB3 := Lib.hid (bon HB2.out hb3); have kx3 := fun o => (bcell HB3.out _ o HBK.out.lt).trans (HBK.out.cell o); have kc3 := fun o => (bcell HB3.out _ o HBC.out.lt).trans (HBC.out.cell o); clear hb3))
          have hal5 := bal (Below.refl w3.heap.size w3) (.cells #[.func (.func 54) #[] #[.pointer (some ⟨w.heap.size + 1, 0, none⟩)]] 77)
          have HF5 := Lib.hid (Blk.new w3 [.func (.func 54) #[] #[.pointer (some ⟨w.heap.size + 1, 0, none⟩)]] 77)
          have HB5 := Lib.hid (bon HB3.out hal5)
          have kf5 := HF5.out.cell
          have kx5 := fun o => (bcell HB5.out _ o HBK.out.lt).trans (HBK.out.cell o)
          have hz3 := HB3.out.size
          have HZ3 := Lib.hid hz3
          clear hal5 hz3 kx1 kx2 kx3 kc1 kc2 kc3 kx kc
          generalize w3.alloc (.cells #[.func (.func 54) #[] #[.pointer (some ⟨w.heap.size + 1, 0, none⟩)]] 77) = W5 at *
          have HCT : Hid (Calls Tryz.prog 42 #[.slice a4 S.length c4, .func (.func 56) #[] #[.pointer (some ⟨w3.heap.size, 0, none⟩)]] W5 fun e w' => e = .returned (.bool (anyR S.length (fun j => inB c.lits (-(ix S j))))) ∧ Below W5.heap.size W5 w') := Lib.hid (ctn_v2 _ S W5 (HS.out.below HB5.out) (fun j => inB c.lits (-(ix S j))) _ (fun w' hb' j hj => (v2_any (ix S j) w3.heap.size (w.heap.size + 1) c.lits w' (HF5.out.below hb') (HU.out.below (bon HB5.out hb')) (by have := setB_pos HI.out hj; have := HN.out; omega)).mono fun e w'' ⟨e1, e2⟩ => ⟨e1, e2 ▸ Below.refl _ _⟩))
          cases h6 : anyR S.length (fun j => inB c.lits (-(ix S j))) with
          | false =>
            rw [h6] at HCT
            rw [h6, Bool.false_and] at HF
            clear h6
            go_wp2_with (go_at_call 42; (with_reducible refine (HCT.out).mono ?_); rintro e w6 ⟨rfl, hb6⟩; have HB6 := Lib.hid (bon HB5.out hb6); clear hb6)
            go_ret
            exact ⟨ret_bool HF.out.symm, HAL.out.trans (HB6.out.mono HAL.out.size)⟩
          | true =>
            rw [h6] at HCT
            rw [h6, Bool.true_and] at HF
            clear h6
            go_wp2_with (first
              | (go_at_call 47; (with_reducible refine (all_anyV p S c.lits _ _ _ _ (HP.out.below HB6.out) (HS.out.below HB6.out) (HU.out.below HB6.out) HOK.out).mono ?_); rintro e w7 ⟨rfl, hb7⟩; have HB7 := Lib.hid (bon HB6.out hb7); clear hb7)
              | (go_at_call 42; (with_reducible refine (HCT.out).mono ?_); rintro e w6 ⟨rfl, hb6⟩; have HB6 := Lib.hid (bon HB5.out hb6); have kx6 := fun o => (bcell HB6.out _ o HBK.out.lt).trans (HBK.out.cell o); have kf6 := (HF5.out.below hb6).cell; clear hb6))
            go_ret
            exact ⟨ret_bool HF.out.symm, HAL.out.trans (HB7.out.mono HAL.out.size)⟩
        · rw [decide_eq_false h4, Bool.false_and] at HF
          have hbe : (c.bound != 1) = true := by simp [h4]
          clear h4
          go_wp2_with (first | (go_at_call 22; (with_reducible refine (valid_any _ p W HP.out).mono ?_); rintro e w1 ⟨he, hb1⟩; rw [HV.out] at he; subst he; have HB1 := Lib.hid hb1; have kx1 := fun o => (bcell hb1 _ o HBK.out.lt).trans (HBK.out.cell o); have kc1 := fun o => (bcell hb1 _ o HBC.out.lt).trans (HBC.out.cell o); clear hb1) | (go_at_call 46; (with_reducible refine (isSet_any _ _ p S _ (HP.out.below HB1.out) (HS.out.below HB1.out)).mono ?_); rintro e w2 ⟨he, hb2⟩; rw [HI.out] at he; subst he; have HB2 := Lib.hid (bon HB1.out hb2); have kx2 := fun o => (bcell HB2.out _ o HBK.out.lt).trans (HBK.out.cell o); have kc2 := fun o => (bcell HB2.out _ o HBC.out.lt).trans (HBC.out.cell o); clear hb2) | (go_at_call 53; (with_reducible refine (pbValid_any _ c _ (HC.out.below HB2.out)).mono ?_); rintro e w3 ⟨he, hb3⟩; rw [HPV.out] at he; subst he; have HB3 := Lib.hid (bon HB2.out hb3); have kx3 := fun o => (bcell HB3.out _ o HBK.out.lt).trans (HBK.out.cell o); have kc3 := fun o => (bcell HB3.out _ o HBC.out.lt).trans (HBC.out.cell o); clear hb3))
          go_ret
          exact ⟨ret_bool HF.out.symm, HAL.out.trans (HB3.out.mono HAL.out.size)⟩
  · rw [decide_eq_false hv, Bool.false_and] at HF
    go_wp2_with (go_at_call 22; (with_reducible refine (valid_any _ p W HP.out).mono ?_); rintro e w1 ⟨rfl, hb1⟩; have HB1 := Lib.hid hb1; clear hb1)
    go_ret
    exact ⟨ret_bool HF.out.symm, HAL.out.trans (HB1.out.mono HAL.out.size)⟩
set_option maxHeartbeats 1000000 in
theorem idx_rs (v : Value) (l : List Int) (w : World) (h : Ints w v l) (g : Nat → Bool) (k1 k2 : Value)
    (hg : ∀ w', Below w.heap.size w w' → ∀ j, j < l.length → Calls Tryz.prog 126 #[.int .i64 (ix l j), k1, k2] w' fun e w'' => e = .returned (.bool (g j)) ∧ Below w'.heap.size w' w'') :
    Calls Tryz.prog 83 #[v, .func (.func 126) #[] #[k1, k2]] w fun e w' => ∃ r, e = .returned (.int .i64 r) ∧ IxP l.length g r ∧ Below w.heap.size w w' := by
  obtain ⟨a1, c1, rfl, -, hl1, -, hcell⟩ := h.form
  have HG := Lib.hid hg
  clear h hg
  go_enter Tryz.func83, Tryz.ntmps83
  go_wp2
  go_loopw [8] (fun i wx => IxR l.length g w i wx) (fun i _ => l.length - (intOf i).toNat)
  case atStart => exact ⟨0, by omega, rfl, fun j hj => absurd hj (Nat.not_lt_zero _), Below.refl _ _⟩
  case round =>
    obtain ⟨k, hk, rfl, hall, hb⟩ := hrel
    have HA := Lib.hid hall
    clear hall
    by_cases hlt : k < l.length
    · obtain ⟨b, off, rfl, hbl, hc⟩ := hcell (by omega)
      have hk1 := (bcell hb _ _ hbl).trans (hc k hlt)
      clear hc hcell
      cases g1 : g k with
      | true =>
        have HK : Hid (_ = true) := Lib.hid g1
        have HC := Lib.hid (HG.out _ hb k hlt)
        rw [g1] at HC
        clear g1
        go_wp2_with (go_at_call 126; refine (HC.out).mono ?_; rintro e w1 ⟨rfl, hb1⟩)
        go_ret
        exact ⟨_, rfl, .inr ⟨k, hlt, rfl, HK.out, HA.out⟩, bon hb hb1⟩
      | false =>
        have HN := Lib.hid (lt_succ_all HA.out g1)
        have HC := Lib.hid (HG.out _ hb k hlt)
        rw [g1] at HC
        clear g1
        go_wp2_with (go_at_call 126; refine (HC.out).mono ?_; rintro e w1 ⟨rfl, hb1⟩)
        first
          | (go_roundw
             case rel => (exact ⟨k + 1, by omega, by go_num, HN.out, bon hb hb1⟩)
             case measure => (simp [intOf]; omega))
          | (refine ⟨?_, ?_⟩
             · (exact ⟨k + 1, by omega, by go_num, HN.out, bon hb hb1⟩)
             · (simp [intOf]; omega))
    · have HN : Hid (∀ j, j < l.length → g j = false) := Lib.hid (fun j hj => HA.out j (by omega))
      go_wp2
      go_ret
      exact ⟨_, rfl, .inl ⟨rfl, HN.out⟩, hb⟩
set_option maxHeartbeats 4000000 in
set_option maxRecDepth 100000 in
theorem delf_rs (l : List Int) (g c base : Nat) (D : List Value) (w : World) (hb : Blk w g D 3) (hcell : ∀ k, k < l.length → D[k]? = some (.int .i64 (ix l k))) (hfit : Fits l) (hn : l.length ≤ c ∧ c ≤ D.length ∧ c ≤ maxLen) (hbase : base ≤ g) (hl8 : l.length * 8 ≤ 140737488351232)
    (q : Int → Bool) (k1 k2 : Value) (hq : ∀ w', Lim w.heap.size [g] w w' → ∀ j, j < l.length → Calls Tryz.prog 126 #[.int .i64 (ix l j), k1, k2] w' fun e w'' => e = .returned (.bool (q (ix l j))) ∧ Below w'.heap.size w' w'') :
    Calls Tryz.prog 125 #[.slice (some ⟨g, 0, none⟩) l.length c, .func (.func 126) #[] #[k1, k2]] w fun e w' => ∃ a n c', e = .returned (.slice a n c') ∧ QRow base w' (.slice a n c') (keepF q l l.length) ∧ Lim w.heap.size [g] w w' := by
  have hint : Ints w (.slice (some ⟨g, 0, none⟩) l.length c) l := ⟨⟨_, _, rfl, hn.1, hn.2.2, hl8, fun _ => ⟨g, 0, rfl, hb.lt, fun i hi => by rw [Nat.zero_add, hb.cell]; exact hcell i hi⟩⟩, hfit⟩
  have HI := Lib.hid (idx_rs _ l w hint (fun j => q (ix l j)) k1 k2 (fun w' hb' j hj => hq w' (.of_below hb' (Nat.le_refl _)) j hj))
  have HQ := Lib.hid hq
  have HB := Lib.hid hb
  have HC := Lib.hid hcell
  have HFT := Lib.hid hfit
  have hglt := hb.lt
  clear hint hq hb hcell hfit
  go_enter Tryz.func125, Tryz.ntmps125
  go_upto_region 2 with (go_at_call 83; (with_reducible refine (HI.out).mono ?_); rintro e w1 ⟨r, rfl, hr, hb1⟩; have HR := Lib.hid hr; have HB1 := Lib.hid hb1; clear hr hb1)
  rcases HR.out with ⟨rfl, hnone⟩ | ⟨i0, hi0, rfl, hq0, hbef⟩
  · have HK : Hid (keepF q l l.length = l) := Lib.hid (by rw [keepF_none _ (Nat.le_refl _) hnone, List.take_length])
    clear hnone
    go_wp2_with fail
    go_ret
    refine ⟨_, _, _, rfl, ⟨by rw [HK.out]; exact HFT.out, .inr ⟨g, 0, c, D.toArray, by rw [HK.out], hbase, HB.out.below HB1.out, by rw [HK.out]; exact hn.1, hn.2.2, by simp; exact hn.2.1, fun i hi => by rw [HK.out] at hi ⊢; rw [Nat.zero_add, List.getElem?_toArray]; exact HC.out i hi⟩⟩, .of_below HB1.out (Nat.le_refl _)⟩
  · have hk0 : keepF q l i0 = l.take i0 := keepF_none i0 (by omega) hbef
    have hk1 : keepF q l (i0 + 1) = l.take i0 := by rw [keepF_succ hi0, if_pos (show q (ix l i0) = true from hq0)]; exact hk0
    have hst : DelSt w g q l D.length (i0 + 1) w1 := ⟨D, rfl, HB.out.below HB1.out, fun k hk => by
      rw [hk1] at hk ⊢
      simp only [List.length_take] at hk
      rw [HC.out k (by omega)]
      congr 2
      simp [ix, show k < i0 by omega], fun k _ hk => HC.out k hk, .of_below HB1.out (Nat.le_refl _)⟩
    have HST := Lib.hid hst
    have HLE : Hid ((keepF q l (i0 + 1)).length = i0) := Lib.hid (by rw [hk1, List.length_take]; omega)
    clear hst hk0 hk1 hq0 hbef HR HI
    have hi0m : ((i0 : Int) == -1) = false := by simp
    have hlen63 : l.length ≤ 1000000000000000 := by omega
    go_upto_region 5 with fail
    go_loopw [5, 6] (fun i j wx => DelRel w g q l D.length i j wx) (fun _ j _ => l.length - (intOf j).toNat)
    case atStart => exact ⟨i0 + 1, by omega, by go_num, by rw [HLE.out], by rw [HLE.out]; omega, HST.out⟩
    case round =>
      obtain ⟨jj, hjj, rfl, rfl, hlt0, hst⟩ := hrel
      have HS := Lib.hid hst
      obtain ⟨D1, hd1, hd2, hd3, hd4, hd5⟩ := hst
      have hN : l.length ≤ D.length := by omega
      by_cases hltj : jj < l.length
      · have kv := (hd2.cell jj).trans (hd4 jj (Nat.le_refl _) hltj)
        have hil : (keepF q l jj).length < D1.length := by omega
        have HCL := Lib.hid (HQ.out wr hd5 jj hltj)
        have HD2 := Lib.hid hd2
        have HSUC := Lib.hid (keepF_succ (q := q) hltj)
        clear hd2 hd3 hd4 hd5
        cases hqv : q (ix l jj) with
        | true =>
          rw [hqv] at HCL HSUC
          have HSU2 : Hid (keepF q l (jj + 1) = keepF q l jj) := Lib.hid (by rw [HSUC.out]; rfl)
          go_wp2_with (go_at_call 126; (with_reducible refine (HCL.out).mono ?_); rintro e w2 ⟨rfl, hb2⟩; have HNX := Lib.hid ((HS.out.on hb2).drop hltj hqv); clear hb2)
          first
            | (go_roundw
               case rel => (exact ⟨jj + 1, by omega, by go_num, by rw [HSU2.out], by rw [HSU2.out]; omega, HNX.out⟩)
               case measure => (simp [intOf]; omega))
            | (refine ⟨?_, ?_⟩
               · (exact ⟨jj + 1, by omega, by go_num, by rw [HSU2.out], by rw [HSU2.out]; omega, HNX.out⟩)
               · (simp [intOf]; omega))
        | false =>
          rw [hqv] at HCL HSUC
          have HSU2 : Hid ((keepF q l (jj + 1)).length = (keepF q l jj).length + 1) := Lib.hid (by rw [HSUC.out]; simp)
          go_wp2_with (go_at_call 126; (with_reducible refine (HCL.out).mono ?_); rintro e w2 ⟨rfl, hb2⟩; have HNX := Lib.hid ((HS.out.on hb2).keep hltj hN hqv); have hd2' := HD2.out.below hb2; have ks : w2.cell? ⟨g, (keepF q l jj).length, none⟩ = some (D1[(keepF q l jj).length]) := (hd2'.cell _).trans (List.getElem?_eq_getElem hil); have fs := hd2'.free (keepF q l jj).length; clear hb2 hd2')
          first
            | (go_roundw
               case rel => (exact ⟨jj + 1, by omega, by go_num, by rw [HSU2.out]; go_num, by rw [HSU2.out]; omega, HNX.out⟩)
               case measure => (simp [intOf]; omega))
            | (refine ⟨?_, ?_⟩
               · (exact ⟨jj + 1, by omega, by go_num, by rw [HSU2.out]; go_num, by rw [HSU2.out]; omega, HNX.out⟩)
               · (simp [intOf]; omega))
      · obtain rfl : jj = l.length := by omega
        obtain ⟨fi, hfi⟩ : ∃ fi, fi = (keepF q l l.length).length := ⟨_, rfl⟩
        have HFI := Lib.hid hfi
        rw [← hfi] at hlt0 ⊢
        have hcl : ∀ ty c', (Builtin.clear_ #[23] ty #[.slice (some ⟨g, fi, none⟩) (l.length - fi) c']).run Tryz.prog wr = .ok (.tuple #[]) (wr.setCells g fi (List.replicate (l.length - fi) (.int .i64 0))) := fun ty c' =>
          Lib.run_clear_slice wr 23 3 ty (.int .i64 0) Tryz.underlying23 (fun w => Tryz.zeroValue3 w) rfl rfl g fi (l.length - fi) c' (by omega) (fun j hj => by rw [hd2.cell, List.getElem?_eq_getElem (by omega)]; rfl) (fun j hj => hd2.free _)
        clear hfi hd2 hd3 hd4 hd5
        go_wp2_with fail
        go_ret
        obtain ⟨D2, d1, d2, d3, -, d5⟩ := HS.out
        obtain ⟨D3, e1, e2, e3⟩ := blk_setCells (List.replicate (l.length - fi) (.int .i64 0)) fi D2 wr d2
        rw [← HFI.out] at d3
        refine ⟨_, _, _, rfl, ⟨fits_of (fun x hx => ?_), .inr ⟨g, 0, c, D3.toArray, by rw [← HFI.out], hbase, e1, by rw [← HFI.out]; omega, hn.2.2, by simp; omega, fun i hi => ?_⟩⟩, lim_setCells (by simp) _ _ _ d5⟩
        · have hm : x ∈ l := by
            unfold keepF at hx
            exact List.mem_of_mem_take (List.mem_filter.1 hx).1
          obtain ⟨k, hk, rfl⟩ := mem_ix.1 hm
          exact HFT.out k
        · rw [← HFI.out] at hi
          rw [Nat.zero_add, List.getElem?_toArray, e3 i hi]
          exact d3 i hi
set_option maxHeartbeats 1000000 in
theorem delf_nilR (k1 k2 : Value) (w : World) :
    Calls Tryz.prog 125 #[.slice none 0 0, .func (.func 126) #[] #[k1, k2]] w fun e w' => e = .returned (.slice none 0 0) ∧ Below w.heap.size w w' := by
  have hint : Ints w (.slice none 0 0) [] := nil_ints w
  have HI := Lib.hid (idx_rs _ [] w hint (fun _ => false) k1 k2 (fun w' hb' j hj => absurd hj (Nat.not_lt_zero _)))
  clear hint
  go_enter Tryz.func125, Tryz.ntmps125
  go_upto_region 2 with (go_at_call 83; (with_reducible refine (HI.out).mono ?_); rintro e w1 ⟨r, rfl, hr, hb1⟩; have HR := Lib.hid hr; have HB1 := Lib.hid hb1; clear hr hb1)
  rcases HR.out with ⟨rfl, -⟩ | ⟨i0, hi0, -⟩
  · go_wp2_with fail
    go_ret
    exact ⟨rfl, HB1.out⟩
  · exact absurd hi0 (Nat.not_lt_zero _)
theorem delf_rowR {base : Nat} {w : World} {v : Value} {l : List Int} (h : OwnI base w v l) (hbase : base ≤ w.heap.size) (q : Int → Bool) (k1 k2 : Value) (hq : ∀ w', Below base w w' → ∀ j, j < l.length → Calls Tryz.prog 126 #[.int .i64 (ix l j), k1, k2] w' fun e w'' => e = .returned (.bool (q (ix l j))) ∧ Below w'.heap.size w' w'') :
    Calls Tryz.prog 125 #[v, .func (.func 126) #[] #[k1, k2]] w fun e w' => ∃ a n c', e = .returned (.slice a n c') ∧ QRow base w' (.slice a n c') (keepF q l l.length) ∧ Below base w w' := by
  obtain ⟨⟨hrow, h8⟩, hfit⟩ := h
  rcases hrow.2 with ⟨rfl, h0⟩ | ⟨g, c, cur, rfl, hb, hg, hn, hm, hs, hx⟩
  · have : l = [] := List.eq_nil_of_length_eq_zero h0
    subst this
    refine (delf_nilR k1 k2 w).mono fun e w' ⟨he, hb⟩ => ⟨none, 0, 0, he, QRow.nil _ _, hb.mono hbase⟩
  · refine (delf_rs l g c base cur.toList w (by unfold Blk; simpa using hg) (fun k hk => ?_) hfit ⟨hn, by simp; omega, hm⟩ hb h8 q k1 k2 (fun w' hl x hx => hq w' ((hl.mono hbase (fun i hi _ => hi)).below (fun i hi => by simp only [List.mem_singleton] at hi; omega)) x hx)).mono fun e w' ⟨a, n, c', he, hr, hl⟩ => ⟨a, n, c', he, hr, (hl.mono hbase (fun i hi _ => hi)).below (fun i hi => by simp only [List.mem_singleton] at hi; omega)⟩
    have h4 : (cur.toList.take (l.length * 1))[k]? = some (.int .i64 (ix l k)) := by rw [hx]; simp [hk]
    rw [List.getElem?_take_of_lt (by omega)] at h4
    exact h4
end Go.Proofs.YtjodocheiejkeaaGreatDoor
namespace Go.Proofs.YtjodocheiejkeaaGreatDoor
def makeP (p : GP) (a S : List Int) (u : Int) : PBC × Int :=
  if unfB p a S && decide (u ∈ S) then clauseP ([-u] ++ reasAll a (supsTo p S p.rules.length)) else (⟨[], [], 0⟩, 2)
end Go.Proofs.YtjodocheiejkeaaGreatDoor
namespace Go.Proofs.YtjodocheiejkeaaGreatDoor
open Go.RowKit
set_option maxHeartbeats 1000000 in
theorem r1_any (l : Int) (ab : Nat) (a : List Int) (w : World) (h : InU w ab a) (hl : 1 ≤ l.natAbs ∧ l.natAbs ≤ 1000000) :
    Calls Tryz.prog 121 #[.int .i64 l, .pointer (some ⟨ab, 0, none⟩)] w fun e w' => e = .returned (.bool (offB a l)) ∧ w = w' := by
  obtain ⟨va, h1, h2⟩ := h
  have k0 := h1.cell 0
  obtain ⟨a9, n9, c9, rfl⟩ : ∃ a9 n9 c9, va = .slice a9 n9 c9 := by obtain ⟨⟨x, y, e, -⟩, -⟩ := h2; exact ⟨_, _, _, e⟩
  have HA := Lib.hid h2
  have hl0 : l ≠ 0 := by omega
  have hl1 : -4611686018427387904 ≤ l ∧ l ≤ 4611686018427387904 := by omega
  have HL0 := Lib.hid hl0
  have HL1 := Lib.hid hl1
  clear h1 h2 hl0 hl1
  cases ho : offB a l with
  | true =>
    have HO := Lib.hid ho
    clear ho
    go_enter Tryz.func121, Tryz.ntmps121
    go_wp2_with (go_at_call 49; (with_reducible refine (lvalue_off _ a _ HA.out l HL0.out HL1.out HO.out).mono ?_); rintro e w1 ⟨rfl, rfl⟩)
    go_ret
    exact ⟨rfl, rfl⟩
  | false =>
    have HO := Lib.hid ho
    clear ho
    go_enter Tryz.func121, Tryz.ntmps121
    go_wp2_with (go_at_call 49; (with_reducible refine (lvalue_on _ a _ HA.out l HL0.out HL1.out HO.out).mono ?_); rintro e w1 ⟨r, hr, rfl, rfl⟩)
    go_ret
    exact ⟨ret_bool (decide_eq_false (by omega)), rfl⟩
section
variable {w : World} {sb fb ab : Nat} {u : SU} {a : List Int}
set_option maxHeartbeats 1000000 in
theorem r2_any (h : EnvR w sb ab fb u a) (x : Int) (hx : 1 ≤ x.natAbs ∧ x.natAbs ≤ 1000000) :
    Calls Tryz.prog 124 #[.int .i64 x, .pointer (some ⟨fb, 0, none⟩)] w fun e w' => e = .returned (.bool (offB a (-x))) ∧ w = w' := by
  have kf := h.fn.cell 0
  have HI := Lib.hid (r1_any (-x) ab a w h.asg (by omega))
  clear h
  go_enter Tryz.func124, Tryz.ntmps124
  go_wp2_with (go_at_call 121; (with_reducible refine (HI.out).mono ?_); rintro e w1 ⟨rfl, rfl⟩)
  go_ret
  exact ⟨rfl, rfl⟩
def qR (u : SU) (a : List Int) (x : Int) : Bool := intB u.S x || !offB a x
set_option maxHeartbeats 1000000 in
theorem r3_any (h : EnvR w sb ab fb u a) (x : Int) (hx : 1 ≤ x.natAbs ∧ x.natAbs ≤ 1000000) :
    Calls Tryz.prog 126 #[.int .i64 x, .pointer (some ⟨sb, 0, none⟩), .pointer (some ⟨fb, 0, none⟩)] w fun e w' => e = .returned (.bool (qR u a x)) ∧ Below w.heap.size w w' := by
  have HE := Lib.hid h
  obtain ⟨vh, vb, vw, vs, h0, hsl, hS, hb⟩ := h.sup
  have ks := h0.cell
  have HSU : Hid (SupIs w (.agg #[.bool u.r.choice, vh, .bool u.r.sum, .int .i64 u.r.bound, vb, vw, .int .i64 u.b, vs]) u) := Lib.hid ⟨_, _, _, _, rfl, hsl, hS, hb⟩
  have HX := Lib.hid hx
  have HQ : Hid (qR u a x = (intB u.S x || !offB a x)) := Lib.hid rfl
  clear h h0 hsl hS hx
  have HI := Lib.hid (internal_any _ u x w HSU.out)
  cases hi : intB u.S x with
  | true =>
    rw [hi] at HI HQ
    go_enter Tryz.func126, Tryz.ntmps126
    go_wp2_with (go_at_call 127; (with_reducible refine (HI.out).mono ?_); rintro e w1 ⟨rfl, hb1⟩; have HB1 := Lib.hid hb1; clear hb1)
    go_ret
    exact ⟨ret_bool HQ.out.symm, HB1.out⟩
  | false =>
    rw [hi] at HI HQ
    go_enter Tryz.func126, Tryz.ntmps126
    go_wp2_with (first
      | (go_at_call 121; (with_reducible refine (r1_any x ab a _ HE1.out.asg HX.out).mono ?_); rintro e w2 ⟨rfl, rfl⟩)
      | (go_at_call 127; (with_reducible refine (HI.out).mono ?_); rintro e w1 ⟨rfl, hb1⟩; have HB1 := Lib.hid hb1; have HE1 := Lib.hid (HE.out.below hb1); have kf1 := HE1.out.fn.cell 0; clear hb1))
    go_ret
    exact ⟨ret_bool (by rw [HQ.out]; simp), HB1.out⟩
end
set_option maxHeartbeats 1000000 in
theorem idx_r1 (v : Value) (l : List Int) (w : World) (h : Ints w v l) (g : Nat → Bool) (cap : Value)
    (hg : ∀ w', Below w.heap.size w w' → ∀ j, j < l.length → Calls Tryz.prog 121 #[.int .i64 (ix l j), cap] w' fun e w'' => e = .returned (.bool (g j)) ∧ Below w'.heap.size w' w'') :
    Calls Tryz.prog 83 #[v, .func (.func 121) #[] #[cap]] w fun e w' => ∃ r, e = .returned (.int .i64 r) ∧ IxP l.length g r ∧ Below w.heap.size w w' := by
  obtain ⟨a1, c1, rfl, -, hl1, -, hcell⟩ := h.form
  have HG := Lib.hid hg
  clear h hg
  go_enter Tryz.func83, Tryz.ntmps83
  go_wp2
  go_loopw [8] (fun i wx => IxR l.length g w i wx) (fun i _ => l.length - (intOf i).toNat)
  case atStart => exact ⟨0, by omega, rfl, fun j hj => absurd hj (Nat.not_lt_zero _), Below.refl _ _⟩
  case round =>
    obtain ⟨k, hk, rfl, hall, hb⟩ := hrel
    have HA := Lib.hid hall
    clear hall
    by_cases hlt : k < l.length
    · obtain ⟨b, off, rfl, hbl, hc⟩ := hcell (by omega)
      have hk1 := (bcell hb _ _ hbl).trans (hc k hlt)
      clear hc hcell
      cases g1 : g k with
      | true =>
        have HK : Hid (_ = true) := Lib.hid g1
        have HC := Lib.hid (HG.out _ hb k hlt)
        rw [g1] at HC
        clear g1
        go_wp2_with (go_at_call 121; refine (HC.out).mono ?_; rintro e w1 ⟨rfl, hb1⟩)
        go_ret
        exact ⟨_, rfl, .inr ⟨k, hlt, rfl, HK.out, HA.out⟩, bon hb hb1⟩
      | false =>
        have HN := Lib.hid (lt_succ_all HA.out g1)
        have HC := Lib.hid (HG.out _ hb k hlt)
        rw [g1] at HC
        clear g1
        go_wp2_with (go_at_call 121; refine (HC.out).mono ?_; rintro e w1 ⟨rfl, hb1⟩)
        first
          | (go_roundw
             case rel => (exact ⟨k + 1, by omega, by go_num, HN.out, bon hb hb1⟩)
             case measure => (simp [intOf]; omega))
          | (refine ⟨?_, ?_⟩
             · (exact ⟨k + 1, by omega, by go_num, HN.out, bon hb hb1⟩)
             · (simp [intOf]; omega))
    · have HN : Hid (∀ j, j < l.length → g j = false) := Lib.hid (fun j hj => HA.out j (by omega))
      go_wp2
      go_ret
      exact ⟨_, rfl, .inl ⟨rfl, HN.out⟩, hb⟩
set_option maxHeartbeats 1000000 in
theorem idx_r2 (v : Value) (l : List Int) (w : World) (h : Ints w v l) (g : Nat → Bool) (cap : Value)
    (hg : ∀ w', Below w.heap.size w w' → ∀ j, j < l.length → Calls Tryz.prog 124 #[.int .i64 (ix l j), cap] w' fun e w'' => e = .returned (.bool (g j)) ∧ Below w'.heap.size w' w'') :
    Calls Tryz.prog 83 #[v, .func (.func 124) #[] #[cap]] w fun e w' => ∃ r, e = .returned (.int .i64 r) ∧ IxP l.length g r ∧ Below w.heap.size w w' := by
  obtain ⟨a1, c1, rfl, -, hl1, -, hcell⟩ := h.form
  have HG := Lib.hid hg
  clear h hg
  go_enter Tryz.func83, Tryz.ntmps83
  go_wp2
  go_loopw [8] (fun i wx => IxR l.length g w i wx) (fun i _ => l.length - (intOf i).toNat)
  case atStart => exact ⟨0, by omega, rfl, fun j hj => absurd hj (Nat.not_lt_zero _), Below.refl _ _⟩
  case round =>
    obtain ⟨k, hk, rfl, hall, hb⟩ := hrel
    have HA := Lib.hid hall
    clear hall
    by_cases hlt : k < l.length
    · obtain ⟨b, off, rfl, hbl, hc⟩ := hcell (by omega)
      have hk1 := (bcell hb _ _ hbl).trans (hc k hlt)
      clear hc hcell
      cases g1 : g k with
      | true =>
        have HK : Hid (_ = true) := Lib.hid g1
        have HC := Lib.hid (HG.out _ hb k hlt)
        rw [g1] at HC
        clear g1
        go_wp2_with (go_at_call 124; refine (HC.out).mono ?_; rintro e w1 ⟨rfl, hb1⟩)
        go_ret
        exact ⟨_, rfl, .inr ⟨k, hlt, rfl, HK.out, HA.out⟩, bon hb hb1⟩
      | false =>
        have HN := Lib.hid (lt_succ_all HA.out g1)
        have HC := Lib.hid (HG.out _ hb k hlt)
        rw [g1] at HC
        clear g1
        go_wp2_with (go_at_call 124; refine (HC.out).mono ?_; rintro e w1 ⟨rfl, hb1⟩)
        first
          | (go_roundw
             case rel => (exact ⟨k + 1, by omega, by go_num, HN.out, bon hb hb1⟩)
             case measure => (simp [intOf]; omega))
          | (refine ⟨?_, ?_⟩
             · (exact ⟨k + 1, by omega, by go_num, HN.out, bon hb hb1⟩)
             · (simp [intOf]; omega))
    · have HN : Hid (∀ j, j < l.length → g j = false) := Lib.hid (fun j hj => HA.out j (by omega))
      go_wp2
      go_ret
      exact ⟨_, rfl, .inl ⟨rfl, HN.out⟩, hb⟩
theorem find_ixp {l : List Int} {p : Int → Bool} {r : Int} (h : IxP l.length (fun j => p (ix l j)) r) : (r = -1 ∧ l.find? p = none) ∨ ∃ k : Nat, k < l.length ∧ r = k ∧ l.find? p = some (ix l k) := by
  rcases h with ⟨rfl, h⟩ | ⟨k, hk, rfl, hg, hb⟩
  · refine .inl ⟨rfl, List.find?_eq_none.2 fun x hx => ?_⟩
    obtain ⟨j, hj, rfl⟩ := mem_ix.1 hx
    have := h j hj
    simp only at this
    rw [this]; exact Bool.false_ne_true
  · refine .inr ⟨k, hk, rfl, ?_⟩
    rw [List.find?_eq_some_iff_getElem]
    simp only at hg hb
    have e : ∀ j, (hj : j < l.length) → ix l j = l[j] := fun j hj => by simp [ix, List.getD_eq_getElem?_getD, List.getElem?_eq_getElem hj]
    refine ⟨hg, k, hk, (e k hk).symm, fun j hj => ?_⟩
    have := hb j hj
    rw [e j (by omega)] at this
    simp [this]
set_option maxHeartbeats 4000000 in
set_option maxRecDepth 100000 in
theorem reasons_any (vu va : Value) (u : SU) (a : List Int) (w : World) (h : SupIs w vu u) (hok : SUok u) (ha : Bytes8 w va a) :
    Calls Tryz.prog 85 #[vu, va] w fun e w' => ∃ v, e = .returned v ∧ Ints w' v (reasP u a) ∧ Below w.heap.size w w' := by
  have h0 := h
  obtain ⟨vh, vb, vw, vs, rfl, hsl, hS, hb⟩ := h
  obtain ⟨a1, c1, rfl, -, hl1, -, -⟩ := hsl.head.form
  obtain ⟨a2, c2, rfl, hc2, hl2, hbi, hcell2⟩ := hsl.body.form
  obtain ⟨a3, c3, rfl, -, hl3, -, -⟩ := hsl.wts.form
  obtain ⟨a4, c4, rfl, -, hl4, -, -⟩ := hS.form
  obtain ⟨a9, n9, c9, rfl⟩ : ∃ a9 n9 c9, va = .slice a9 n9 c9 := by obtain ⟨⟨x, y, e, -⟩, -⟩ := ha; exact ⟨_, _, _, e⟩
  have hal : Below w.heap.size w ((w.alloc (.cells #[.bool u.r.choice, .slice a1 u.r.head.length c1, .bool u.r.sum, .int .i64 u.r.bound, .slice a2 u.r.body.length c2, .slice a3 u.r.w.length c3, .int .i64 u.b, .slice a4 u.S.length c4] 128)).alloc (.cells #[.slice a9 n9 c9] 39)) := bal (bal (Below.refl _ _) _) _
  have hb1 := (Blk.new w [.bool u.r.choice, .slice a1 u.r.head.length c1, .bool u.r.sum, .int .i64 u.r.bound, .slice a2 u.r.body.length c2, .slice a3 u.r.w.length c3, .int .i64 u.b, .slice a4 u.S.length c4] 128).alloc (.cells #[.slice a9 n9 c9] 39)
  have hb2 := Blk.new2 w (.cells #[.bool u.r.choice, .slice a1 u.r.head.length c1, .bool u.r.sum, .int .i64 u.r.bound, .slice a2 u.r.body.length c2, .slice a3 u.r.w.length c3, .int .i64 u.b, .slice a4 u.S.length c4] 128) [.slice a9 n9 c9] 39
  have hsz : ((w.alloc (.cells #[.bool u.r.choice, .slice a1 u.r.head.length c1, .bool u.r.sum, .int .i64 u.r.bound, .slice a2 u.r.body.length c2, .slice a3 u.r.w.length c3, .int .i64 u.b, .slice a4 u.S.length c4] 128)).alloc (.cells #[.slice a9 n9 c9] 39)).heap.size = w.heap.size + 1 + 1 := by simp
  have HAL := Lib.hid hal
  have HBK := Lib.hid hb1
  have HSZ := Lib.hid hsz
  have HA : Hid (InU _ (w.heap.size + 1) a) := Lib.hid ⟨_, hb2, ha.below hal⟩
  have HSU := Lib.hid (h0.below hal)
  have HSB : Hid (SupB _ w.heap.size u) := Lib.hid ⟨_, _, _, _, hb1, hsl.below hal, hS.below hal, hb⟩
  have HOK := Lib.hid hok
  have hbb := hok.b
  have HBI := Lib.hid hbi
  have h8b : u.r.body.length * 8 ≤ 140737488351232 := by obtain ⟨⟨_, _, _, _, _, h, _⟩, _⟩ := hbi; exact h
  have HCB := Lib.hid hcell2
  clear h0 hal hb1 hb2 hsz ha hS hcell2 hok hbi
  have HSL := Lib.hid hsl
  clear hsl
  go_enter Tryz.func85, Tryz.ntmps85
  go_upto_region 1 with fail
  generalize (w.alloc (.cells #[.bool u.r.choice, .slice a1 u.r.head.length c1, .bool u.r.sum, .int .i64 u.r.bound, .slice a2 u.r.body.length c2, .slice a3 u.r.w.length c3, .int .i64 u.b, .slice a4 u.S.length c4] 128)).alloc (.cells #[.slice a9 n9 c9] 39) = W at *
  go_upto_region 2 with fail
  have hal5 := bal (Below.refl W.heap.size W) (.cells #[.func (.func 121) #[] #[.pointer (some ⟨w.heap.size + 1, 0, none⟩)]] 77)
  have HF5 := Lib.hid (Blk.new W [.func (.func 121) #[] #[.pointer (some ⟨w.heap.size + 1, 0, none⟩)]] 77)
  have HB5 := Lib.hid (bon HAL.out hal5)
  have HE : Hid (EnvR _ w.heap.size (w.heap.size + 1) W.heap.size u a) := Lib.hid ⟨HSB.out.below hal5, HA.out.below hal5, HF5.out⟩
  have HSU5 := Lib.hid (HSU.out.below hal5)
  have HBK5 := Lib.hid (HBK.out.below hal5)
  clear hal5 HSB HA HSU
  generalize W.alloc (.cells #[.func (.func 121) #[] #[.pointer (some ⟨w.heap.size + 1, 0, none⟩)]] 77) = W5 at *
  have kx5 := HBK5.out.cell
  have kf5 := HF5.out.cell 0
  have hol : (oth u).length * 8 ≤ 140737488351232 := by
    have h1 := HOK.out.hlen
    have h2 := keepF_le (fun x => decide (x ∈ u.S)) u.r.head u.r.head.length
    unfold oth
    split
    · simp
    · omega
  cases him : impB u with
  | true =>
    have HIM := Lib.hid him
    have HF : Hid (reasP u a = []) := Lib.hid (by unfold reasP; rw [him]; rfl)
    clear him
    go_wp2_with (go_at_call 122; (with_reducible refine (impossible_any _ u W5 HSU5.out HOK.out).mono ?_); rintro e w6 ⟨he, hb6⟩; rw [HIM.out] at he; subst he; have HB6 := Lib.hid (bon HB5.out hb6); clear hb6)
    go_ret
    exact ⟨_, rfl, by rw [HF.out]; exact nil_ints _, HB6.out⟩
  | false =>
    have HIM := Lib.hid him
    go_upto_region 4 with (go_at_call 122; (with_reducible refine (impossible_any _ u W5 HSU5.out HOK.out).mono ?_); rintro e w6 ⟨he, hb6⟩; rw [HIM.out] at he; subst he; have HB6 := Lib.hid (bon HB5.out hb6); have HE6 := Lib.hid (HE.out.below hb6); have HBK6 := Lib.hid (HBK5.out.below hb6); have HF6 := Lib.hid (HF5.out.below hb6); have HSU6 := Lib.hid (HSU5.out.below hb6); clear hb6)
    have kx6 := HBK6.out.cell
    have kf6 := HF6.out.cell 0
    have HR1 := Lib.hid (r1_any u.b (w.heap.size + 1) a w6 HE6.out.asg (by omega))
    clear kx5 kf5
    cases ho : offB a u.b with
    | true =>
      have HF : Hid (reasP u a = [u.b]) := Lib.hid (by unfold reasP; rw [him, ho]; rfl)
      rw [ho] at HR1
      clear him ho
      go_wp2_with (go_at_call 121; (with_reducible refine (HR1.out).mono ?_); rintro e w7 ⟨rfl, rfl⟩)
      go_ret
      exact ⟨_, rfl, by rw [HF.out]; exact (Blk.new w6 [.int .i64 u.b] _).ints1 hb, bal HB6.out _⟩
    | false =>
      have HRP0 : Hid (reasP u a = reas1 u a) := Lib.hid (by unfold reasP; rw [him, ho]; rfl)
      rw [ho] at HR1
      clear him ho
      have HBI6 := Lib.hid (HBI.out.below HB6.out)
      have HIX := Lib.hid (idx_r1 _ u.r.body w6 HBI6.out (fun j => offB a (ix u.r.body j)) _ (fun w' hb' j hj => (r1_any _ (w.heap.size + 1) a w' (HE6.out.below hb').asg (HOK.out.lits j hj)).mono fun e w'' ⟨e1, e2⟩ => ⟨e1, e2 ▸ Below.refl _ _⟩))
      go_upto_region 7 with (first
        | (go_at_call 83; (with_reducible refine (HIX.out).mono ?_); rintro e w7 ⟨r, rfl, hr, hb7⟩; have HR7 := Lib.hid hr; have HB7 := Lib.hid (bon HB6.out hb7); have HE7 := Lib.hid (HE6.out.below hb7); have HBK7 := Lib.hid (HBK6.out.below hb7); have HSU7 := Lib.hid (HSU6.out.below hb7); clear hr hb7)
        | (go_at_call 121; (with_reducible refine (HR1.out).mono ?_); rintro e w6' ⟨rfl, rfl⟩))
      clear kx6 kf6 HIX
      rcases find_ixp (p := offB a) HR7.out with ⟨rfl, hfn⟩ | ⟨k, hk, rfl, hfn⟩
      · have HRP : Hid (reasP u a = reas2 u a) := Lib.hid (by rw [HRP0.out]; unfold reas1; rw [hfn]; split <;> rfl)
        have kx7 := HBK7.out.cell
        clear hfn
        go_upto_region 10 with (go_at_call 123; (with_reducible refine (others_any _ u w7 HSU7.out).mono ?_); rintro e w8 ⟨a8, n8, c8, rfl, hq8, hb8⟩; have HO8 := Lib.hid (hq8.ints hol); have HB8 := Lib.hid (bon HB7.out hb8); have HE8 := Lib.hid (HE7.out.below hb8); have HSB8 := Lib.hid (HBK7.out.below hb8); clear hq8 hb8)
        obtain ⟨_, _, e8, -, -, -, hcell8⟩ := HO8.out.form
        simp only [Value.slice.injEq] at e8
        obtain ⟨rfl, rfl, rfl⟩ := e8
        have HIX2 := Lib.hid (idx_r2 _ (oth u) w8 HO8.out (fun j => offB a (-(ix (oth u) j))) _ (fun w' hb' j hj => (r2_any (HE8.out.below hb') _ (by have := oth_mem HOK.out hj; omega)).mono fun e w'' ⟨e1, e2⟩ => ⟨e1, e2 ▸ Below.refl _ _⟩))
        go_upto_region 11 with (go_at_call 83; (with_reducible refine (HIX2.out).mono ?_); rintro e w9 ⟨r9, rfl, hr9, hb9⟩; have HR9 := Lib.hid hr9; have HB9 := Lib.hid (bon HB8.out hb9); have HE9 := Lib.hid (HE8.out.below hb9); have HSB9 := Lib.hid (HSB8.out.below hb9); have HBN9 := Lib.hid hb9; clear hr9 hb9)
        rcases find_ixp (p := fun h => offB a (-h)) HR9.out with ⟨rfl, hfn⟩ | ⟨k9, hk9, rfl, hfn⟩
        · have HF : Hid (reasP u a = keepF (qR u a) u.r.body u.r.body.length) := Lib.hid (by rw [HRP.out]; unfold reas2; rw [hfn]; unfold keepF; rw [List.take_length]; rfl)
          clear hfn hcell8
          have kx9 := HSB9.out.cell
          go_wp2_with (first | (go_at_call 125; (with_reducible refine (delf_rowR HOC.out hzc (qR u a) _ _ (fun w' hb' j hj => r3_any (HE9.out.below (HBC.out.trans hb')) _ (HOK.out.lits j hj))).mono ?_); rintro e w11 ⟨a11, n11, c11, rfl, hq11, hb11⟩; have HQ11 := Lib.hid hq11; have HB11 := Lib.hid hb11; clear hq11 hb11) | (go_at_call 37; (with_reducible refine (cloneI_any _ u.r.body w9 (HBI.out.below HB9.out)).mono ?_); rintro e w10 ⟨v10, rfl, ho10, hb10⟩; have HOC := Lib.hid ho10; have HBC := Lib.hid hb10; have hzc := hb10.size; clear ho10 hb10))
          go_ret
          refine ⟨_, rfl, ?_, bon HB9.out (HBC.out.trans HB11.out)⟩
          rw [HF.out]
          exact HQ11.out.ints (by have h1 := keepF_le (qR u a) u.r.body u.r.body.length; omega)
        · have HF : Hid (reasP u a = [-(ix (oth u) k9)]) := Lib.hid (by rw [HRP.out]; unfold reas2; rw [hfn])
          obtain ⟨b8, o8, rfl, hb8', hc8⟩ := hcell8 (by omega)
          have hcx := (bcell HBN9.out _ _ hb8').trans (hc8 k9 hk9)
          have hxm := oth_mem HOK.out hk9
          clear hfn hc8 hcell8
          go_wp2
          go_ret
          exact ⟨_, rfl, by rw [HF.out]; exact (Blk.new w9 [.int .i64 (-(ix (oth u) k9))] _).ints1 (by unfold InI; omega), bal HB9.out _⟩
      · cases hs : u.r.sum with
        | true =>
          have HRP : Hid (reasP u a = reas2 u a) := Lib.hid (by rw [HRP0.out]; unfold reas1; rw [if_pos hs])
          rw [hs] at HSU7 HBK7
          have kx7 := HBK7.out.cell
          clear hfn hs
          go_upto_region 10 with (go_at_call 123; (with_reducible refine (others_any _ u w7 HSU7.out).mono ?_); rintro e w8 ⟨a8, n8, c8, rfl, hq8, hb8⟩; have HO8 := Lib.hid (hq8.ints hol); have HB8 := Lib.hid (bon HB7.out hb8); have HE8 := Lib.hid (HE7.out.below hb8); have HSB8 := Lib.hid (HBK7.out.below hb8); clear hq8 hb8)
          obtain ⟨_, _, e8, -, -, -, hcell8⟩ := HO8.out.form
          simp only [Value.slice.injEq] at e8
          obtain ⟨rfl, rfl, rfl⟩ := e8
          have HIX2 := Lib.hid (idx_r2 _ (oth u) w8 HO8.out (fun j => offB a (-(ix (oth u) j))) _ (fun w' hb' j hj => (r2_any (HE8.out.below hb') _ (by have := oth_mem HOK.out hj; omega)).mono fun e w'' ⟨e1, e2⟩ => ⟨e1, e2 ▸ Below.refl _ _⟩))
          go_upto_region 11 with (go_at_call 83; (with_reducible refine (HIX2.out).mono ?_); rintro e w9 ⟨r9, rfl, hr9, hb9⟩; have HR9 := Lib.hid hr9; have HB9 := Lib.hid (bon HB8.out hb9); have HE9 := Lib.hid (HE8.out.below hb9); have HSB9 := Lib.hid (HSB8.out.below hb9); have HBN9 := Lib.hid hb9; clear hr9 hb9)
          rcases find_ixp (p := fun h => offB a (-h)) HR9.out with ⟨rfl, hfn⟩ | ⟨k9, hk9, rfl, hfn⟩
          · have HF : Hid (reasP u a = keepF (qR u a) u.r.body u.r.body.length) := Lib.hid (by rw [HRP.out]; unfold reas2; rw [hfn]; unfold keepF; rw [List.take_length]; rfl)
            clear hfn hcell8
            have kx9 := HSB9.out.cell
            go_wp2_with (first | (go_at_call 125; (with_reducible refine (delf_rowR HOC.out hzc (qR u a) _ _ (fun w' hb' j hj => r3_any (HE9.out.below (HBC.out.trans hb')) _ (HOK.out.lits j hj))).mono ?_); rintro e w11 ⟨a11, n11, c11, rfl, hq11, hb11⟩; have HQ11 := Lib.hid hq11; have HB11 := Lib.hid hb11; clear hq11 hb11) | (go_at_call 37; (with_reducible refine (cloneI_any _ u.r.body w9 (HBI.out.below HB9.out)).mono ?_); rintro e w10 ⟨v10, rfl, ho10, hb10⟩; have HOC := Lib.hid ho10; have HBC := Lib.hid hb10; have hzc := hb10.size; clear ho10 hb10))
            go_ret
            refine ⟨_, rfl, ?_, bon HB9.out (HBC.out.trans HB11.out)⟩
            rw [HF.out]
            exact HQ11.out.ints (by have h1 := keepF_le (qR u a) u.r.body u.r.body.length; omega)
          · have HF : Hid (reasP u a = [-(ix (oth u) k9)]) := Lib.hid (by rw [HRP.out]; unfold reas2; rw [hfn])
            obtain ⟨b8, o8, rfl, hb8', hc8⟩ := hcell8 (by omega)
            have hcx := (bcell HBN9.out _ _ hb8').trans (hc8 k9 hk9)
            have hxm := oth_mem HOK.out hk9
            clear hfn hc8 hcell8
            go_wp2
            go_ret
            exact ⟨_, rfl, by rw [HF.out]; exact (Blk.new w9 [.int .i64 (-(ix (oth u) k9))] _).ints1 (by unfold InI; omega), bal HB9.out _⟩
        | false =>
          have HRP : Hid (reasP u a = [ix u.r.body k]) := Lib.hid (by rw [HRP0.out]; unfold reas1; rw [if_neg (by rw [hs]; exact Bool.false_ne_true), hfn])
          rw [hs] at HBK7
          have kx7 := HBK7.out.cell
          clear hfn hs
          obtain ⟨b2, o2, rfl, hb2', hc2'⟩ := HCB.out (by omega)
          have hcx := (bcell HB7.out _ _ hb2').trans (hc2' k hk)
          have hlt7 : b2 < w7.heap.size := Nat.lt_of_lt_of_le hb2' HB7.out.size
          have hmx : c2 ≤ maxLen := by
            obtain ⟨⟨_, _, e, -, h, -⟩, -⟩ := HBI.out
            simp only [Value.slice.injEq] at e
            rw [e.2.2]; exact h
          have hxl := HOK.out.lits k hk
          clear hc2'
          go_wp2
          go_ret
          refine ⟨_, rfl, ?_, HB7.out⟩
          rw [HRP.out]
          refine ⟨⟨_, c2 - k, rfl, by simp; omega, by omega, by simp, fun _ => ⟨b2, o2 + k, rfl, hlt7, fun i hi => ?_⟩⟩, fitI (fun x hx => by obtain rfl := List.mem_singleton.1 hx; unfold InI; omega)⟩
          simp only [List.length_singleton] at hi
          obtain rfl : i = 0 := by omega
          exact hcx
end Go.Proofs.YtjodocheiejkeaaGreatDoor
