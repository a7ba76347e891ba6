/- My texts Ex8, Ex9, merged. -/
import Derived.Test.YtgakoainjgjimaaGreatDoorM09
import Derived.Test.YtgakoainjgjimaaGreatDoorM08
import Derived.Test.YtgakoainjgjimaaGreatDoorM07
import Derived.Test.YtgakoainjgjimaaGreatDoorM05
import Derived.Test.YtgakoainjgjimaaGreatDoorM04
import Derived.Test.YtgakoainjgjimaaGreatDoorM03
import Derived.Test.YtgakoainjgjimaaGreatDoorM00
import Derived.Test.YtgakoainjgjimaaGreatDoorProg
import Derived.WalkKit
import Derived.Lib.Hide
import Derived.Deep.QuietTactic
import Derived.BigQuiet
import Derived.WalkSpells
import Derived.Lib.SliceRun
import Derived.MapKept
import Derived.Maps.OwnSet
import Derived.Maps.OwnOps
import Derived.Test.YtgakoainjgjimaaGreatDoorM02
import Derived.Test.YtgakoainjgjimaaGreatDoorM01
import Derived.Deep.AppendLies
import Derived.Lib.Bytealg
import Derived.Deep.DeepCutAuto
import Derived.Laws.EntriesVeiled
import Derived.Deep.RegionWith
import Derived.Deep.OwnRows
import Derived.Test.YtgakoainjgjimaaGreatDoorM06
import Derived.RangeFuncNested
import Derived.RangeFuncBound
import Derived.RangeFuncCalls
import Derived.RangeFuncLeaves
import Derived.OwnWalkIn
import Derived.TacticsInMore
import Derived.LoopNIn
import Derived.LoopIn
import Derived.Stop.RegionWithIn
import Derived.Shelf.Abstract
import Derived.Deep.LoopGhost
import Derived.Deep.DrawnRows
import Derived.Shelf.Sort.Plain
import Derived.Shelf.Slices.CompactI
import Derived.Shelf.Slices.In.SortNone
import Derived.Shelf.Strconv.Itoa3
import Derived.Shelf.Strings.BuilderK
import Derived.Shelf.Slices.SearchI
import Derived.Shelf.Slices.Empties
import Derived.Deep.AppendSrc
import Derived.Lib.SlicesCompact
import Derived.Sort.OwnSortedInts

namespace Go.Proofs.YtgakoainjgjimaaGreatDoor
open Go.RowKit
theorem less_any (x y : Int) (w : World) : Calls Tryz.prog 124 #[.int .i64 x, .int .i64 y] w fun e w' => e = .returned (.bool (decide (x < y))) ∧ w = w' := by
  by_cases h : x < y
  · have hb := decide_eq_true h
    go_enter Tryz.func124, Tryz.ntmps124
    go_wp2_with (go_at_call 162; refine (isNaN_any _ _).mono ?_; rintro e w' ⟨rfl, rfl⟩)
    go_ret
    exact ⟨ret_bool hb.symm, rfl⟩
  · have hb := decide_eq_false h
    go_enter Tryz.func124, Tryz.ntmps124
    go_wp2_with (go_at_call 162; refine (isNaN_any _ _).mono ?_; rintro e w' ⟨rfl, rfl⟩)
    go_ret
    exact ⟨ret_bool hb.symm, rfl⟩
def IsrRel (n : Nat) (g : Nat → Bool) (W : World) (i : Value) (wx : World) : Prop := ∃ k : Nat, k ≤ n ∧ i = .int .i64 k ∧ (∀ j, k ≤ j → j < n → g j = true) ∧ Below W.heap.size W wx
set_option maxHeartbeats 2000000 in
theorem isSorted_any (v : Value) (l : List Int) (w : World) (h : Ints w v l) :
    Calls Tryz.prog 92 #[v] w fun e w' => e = .returned (.bool (allR (l.length - 1) (fun i => decide (ix l i ≤ ix l (i + 1))))) ∧ Below w.heap.size w w' := by
  obtain ⟨a1, c1, rfl, -, hl1, -, hcell⟩ := h.form
  have HC := Lib.hid hcell
  have HI := Lib.hid h.2
  clear h hcell
  by_cases h0 : l.length = 0
  · have HF : Hid (allR (l.length - 1) (fun i => decide (ix l i ≤ ix l (i + 1))) = true) := Lib.hid (allR_true fun j hj => by omega)
    rw [h0]
    rw [h0] at HF
    go_enter Tryz.func92, Tryz.ntmps92
    go_wp2
    go_loopw [3] (fun i wx => i = .int .i64 (-1) ∧ Below w.heap.size w wx) (fun _ _ => 0)
    case atStart => exact ⟨rfl, Below.refl _ _⟩
    case round =>
      obtain ⟨rfl, hb⟩ := hrel
      go_wp2
      go_ret
      exact ⟨ret_bool HF.out.symm, hb⟩
  · obtain ⟨n, hn⟩ : ∃ n, l.length = n + 1 := ⟨l.length - 1, by omega⟩
    have e1 : l.length - 1 = n := by omega
    have e2 : (l.length : Int) - 1 = n := by omega
    rw [e1]
    go_enter Tryz.func92, Tryz.ntmps92
    go_wp2
    try rw [e2]
    go_loopw [3] (fun i wx => IsrRel n (fun i => decide (ix l i ≤ ix l (i + 1))) w i wx) (fun i _ => (intOf i).toNat)
    case atStart => exact ⟨n, Nat.le_refl _, rfl, fun j h1 h2 => by omega, Below.refl _ _⟩
    case round =>
      obtain ⟨k, hk, rfl, hall, hb⟩ := hrel
      have HA := Lib.hid hall
      have HB := Lib.hid hb
      clear hall
      by_cases hk0 : 0 < k
      · obtain ⟨q, rfl⟩ : ∃ q, k = q + 1 := ⟨k - 1, by omega⟩
        obtain ⟨b, off, rfl, hbl, hc⟩ := HC.out (by omega)
        have hlr : b < wr.heap.size := Nat.lt_of_lt_of_le hbl hb.size
        have k1 : ∀ e : Ext wr, e.world.cell? ⟨b, off + (q + 1), none⟩ = some (.int .i64 (ix l (q + 1))) := fun e => (bcell e.below _ _ hlr).trans ((bcell hb _ _ hbl).trans (hc (q + 1) (by omega)))
        have k2 : ∀ e : Ext wr, e.world.cell? ⟨b, off + q, none⟩ = some (.int .i64 (ix l q)) := fun e => (bcell e.below _ _ hlr).trans ((bcell hb _ _ hbl).trans (hc q (by omega)))
        have eq1 : ((q + 1 : Nat) : Int) - 1 = q := by omega
        have eq2 : (((q + 1 : Nat) : Int) - 1).toNat = q := by omega
        by_cases hg : ix l (q + 1) < ix l q
        · have HL : Hid (∀ e : Ext wr, Calls Tryz.prog 124 #[.int .i64 (ix l (q + 1)), .int .i64 (ix l q)] e.world fun r w' => r = .returned (.bool true) ∧ Below e.world.heap.size e.world w') := Lib.hid fun e => (less_any _ _ _).mono fun r w' ⟨h1, h2⟩ => ⟨h1.trans (by rw [decide_eq_true hg]), h2 ▸ Below.refl _ _⟩
          have HF : Hid (allR n (fun i => decide (ix l i ≤ ix l (i + 1))) = false) := Lib.hid (allR_false q (by omega) (decide_eq_false (by omega)))
          clear hg hb hc
          go_upto_region 4 with fail
          refine wp_region_ext (by kernel_rfl) (by kernel_rfl) ?_
          repeat (go_big_quiet_step ((go_at_call 124; exact Calls.ext_of (HL.out _))))
          refine wpQuiet_nil ?_
          intro w9 hw'
          obtain ⟨e9, he9⟩ := hw'
          have hb9 := e9.below
          rw [← he9] at hb9
          clear he9 e9
          try dsimp only
          go_wp2
          go_ret
          exact ⟨ret_bool HF.out.symm, bon HB.out hb9⟩
        · have HL : Hid (∀ e : Ext wr, Calls Tryz.prog 124 #[.int .i64 (ix l (q + 1)), .int .i64 (ix l q)] e.world fun r w' => r = .returned (.bool false) ∧ Below e.world.heap.size e.world w') := Lib.hid fun e => (less_any _ _ _).mono fun r w' ⟨h1, h2⟩ => ⟨h1.trans (by rw [decide_eq_false hg]), h2 ▸ Below.refl _ _⟩
          have HN : Hid (∀ j, q ≤ j → j < n → decide (ix l j ≤ ix l (j + 1)) = true) := Lib.hid fun j h1 h2 => by
            by_cases e : j = q
            · subst e; exact decide_eq_true (by omega)
            · exact HA.out j (by omega) h2
          clear hg hb hc
          go_upto_region 4 with fail
          refine wp_region_ext (by kernel_rfl) (by kernel_rfl) ?_
          repeat (go_big_quiet_step ((go_at_call 124; exact Calls.ext_of (HL.out _))))
          refine wpQuiet_nil ?_
          intro w9 hw'
          obtain ⟨e9, he9⟩ := hw'
          have hb9 := e9.below
          rw [← he9] at hb9
          clear he9 e9
          try dsimp only
          go_wp2
          first
            | (go_roundw
               case rel => (exact ⟨q, by omega, by go_num, HN.out, bon HB.out hb9⟩)
               case measure => (simp [intOf]))
            | (refine ⟨?_, ?_⟩
               · (exact ⟨q, by omega, by go_num, HN.out, bon HB.out hb9⟩)
               · (simp [intOf]))
      · obtain rfl : k = 0 := by omega
        have HF : Hid (allR n (fun i => decide (ix l i ≤ ix l (i + 1))) = true) := Lib.hid (allR_true fun j hj => HA.out j (Nat.zero_le _) hj)
        go_wp2
        go_ret
        exact ⟨ret_bool HF.out.symm, HB.out⟩
def ordVal (x y : WY) : Int := orI (cmpI x.level y.level) (cmpI x.atom y.atom)
theorem ordVal_lt (x y : WY) : decide (ordVal y x < 0) = !ordY x y := by
  by_cases a : y.level < x.level <;> by_cases b : x.level < y.level <;> by_cases c : y.atom < x.atom <;> by_cases d : x.atom < y.atom <;> simp [ordVal, orI, cmpI, ordY, a, b, c, d] <;> omega
def oyΦ (c1 c2 : Int) (i : Nat) (_ : List Value) (v : Value) (lo hi : Nat) (w : World) : Prop :=
  match i with
  | 4 => v = .int .i64 c1
  | 9 => v = .int .i64 c2
  | 10 => v = .slice (some ⟨lo, 0, none⟩) 2 2 ∧ lo < hi ∧ Blk w lo [.int .i64 c1, .int .i64 c2] 3
  | _ => v = .int .i64 (orI c1 c2)
theorem oyΦ_later (c1 c2 : Int) : ∀ i args v lo hi w w', oyΦ c1 c2 i args v lo hi w → Below w.heap.size w w' → oyΦ c1 c2 i args v lo hi w' := by
  intro i args v lo hi w w' h hb
  unfold oyΦ at *
  split at h <;> first | exact h | exact ⟨h.1, h.2.1, h.2.2.below hb⟩
set_option maxHeartbeats 2000000 in
set_option maxRecDepth 100000 in
theorem ordc_any (x y : WY) (w : World) :
    Calls Tryz.prog 127 #[.agg #[.int .i64 x.atom, .int .i64 x.rule, .int .i64 x.level], .agg #[.int .i64 y.atom, .int .i64 y.rule, .int .i64 y.level]] w fun e w' => e = .returned (.int .i64 (ordVal x y)) ∧ Below w.heap.size w w' := by
  have hal := bal (bal (Below.refl w.heap.size w) (.cells #[.int .i64 x.atom, .int .i64 x.rule, .int .i64 x.level] 49)) (.cells #[.int .i64 y.atom, .int .i64 y.rule, .int .i64 y.level] 49)
  have hx := (Blk.new w [.int .i64 x.atom, .int .i64 x.rule, .int .i64 x.level] 49).alloc (.cells #[.int .i64 y.atom, .int .i64 y.rule, .int .i64 y.level] 49)
  have hy := Blk.new2 w (.cells #[.int .i64 x.atom, .int .i64 x.rule, .int .i64 x.level] 49) [.int .i64 y.atom, .int .i64 y.rule, .int .i64 y.level] 49
  have HAL := Lib.hid hal
  have HX := Lib.hid hx
  have HY := Lib.hid hy
  clear hal hx hy
  have HR : Hid (orI (cmpI x.level y.level) (cmpI x.atom y.atom) = ordVal x y) := Lib.hid rfl
  go_enter Tryz.func127, Tryz.ntmps127
  go_upto_region 1 with fail
  generalize (w.alloc (.cells #[.int .i64 x.atom, .int .i64 x.rule, .int .i64 x.level] 49)).alloc (.cells #[.int .i64 y.atom, .int .i64 y.rule, .int .i64 y.level] 49) = W at *
  have kx : ∀ e : Ext W, ∀ o, e.world.cell? ⟨w.heap.size, o, none⟩ = _ := fun e o => (bcell e.below _ o HX.out.lt).trans (HX.out.cell o)
  have ky : ∀ e : Ext W, ∀ o, e.world.cell? ⟨w.heap.size + 1, o, none⟩ = _ := fun e o => (bcell e.below _ o HY.out.lt).trans (HY.out.cell o)
  refine wp_region_perm' (oyΦ (cmpI x.level y.level) (cmpI x.atom y.atom)) (fun i => i == 4 || i == 9 || i == 10 || i == 11) (by kernel_rfl) (by kernel_rfl) (by kernel_rfl) (oyΦ_later _ _) ?_
  iterate 4 (refine walkP_calm rfl rfl rfl (fun K hK => ?_); go_big_quiet_op; refine hK _ ?_; clear hK K)
  refine walkP_mem rfl rfl (fun wa hba hFa => ?_) (fun v lo hi l g h => ?_)
  · go_simp
    exact (compare_any _ _ _).mono (fun e w2 ⟨h1, h2⟩ => ⟨_, h1, h2 ▸ Below.refl _ _, rfl⟩)
  obtain ⟨_, rfl⟩ := h
  simp only [Act.put, List.setIfInBounds_toArray, List.set_cons_succ, List.set_cons_zero]
  iterate 4 (refine walkP_calm rfl rfl rfl (fun K hK => ?_); go_big_quiet_op; refine hK _ ?_; clear hK K)
  refine walkP_mem rfl rfl (fun wa hba hFa => ?_) (fun v lo hi l g h => ?_)
  · go_simp
    exact (compare_any _ _ _).mono (fun e w2 ⟨h1, h2⟩ => ⟨_, h1, h2 ▸ Below.refl _ _, rfl⟩)
  obtain ⟨_, rfl⟩ := h
  simp only [Act.put, List.setIfInBounds_toArray, List.set_cons_succ, List.set_cons_zero]
  refine walkP_mem rfl rfl (fun wa hba hFa => ?_) (fun v10 lo10 hi10 l g h => ?_)
  · go_simp
    exact ⟨bal (Below.refl _ _) _, rfl, by simp, Blk.new _ _ _⟩
  obtain ⟨_, rfl, -, -⟩ := h
  simp only [Act.put, List.setIfInBounds_toArray, List.set_cons_succ, List.set_cons_zero]
  refine walkP_mem rfl rfl (fun wa hba hFa => ?_) (fun v lo hi l g h => ?_)
  · have f0 := hFa _ (.head _) (by kernel_rfl)
    obtain ⟨-, -, f0⟩ := f0
    go_simp
    exact (or_any _ _ _ _ (f0.cell 0) (f0.cell 1)).mono (fun e w2 ⟨h1, h2⟩ => ⟨_, h1, h2 ▸ Below.refl _ _, rfl⟩)
  obtain ⟨_, rfl⟩ := h
  simp only [Act.put, List.setIfInBounds_toArray, List.set_cons_succ, List.set_cons_zero]
  iterate 1 (refine walkP_calm rfl rfl rfl (fun K hK => ?_); go_big_quiet_op; refine hK _ ?_; clear hK K)
  intro wx hbx hF hI hP
  have HBX := Lib.hid hbx
  clear hF hI hP hbx
  go_wp2_with fail
  go_ret
  exact ⟨ret_int HR.out, bon HAL.out HBX.out⟩
set_option maxHeartbeats 2000000 in
theorem isSortedY_any (v : Value) (l : List WY) (w : World) (h : WhysIs w v l) :
    Calls Tryz.prog 126 #[v, .func (.func 127) #[] #[]] w fun e w' => e = .returned (.bool (allR (l.length - 1) (fun i => ordY (ixY l i) (ixY l (i + 1))))) ∧ Below w.heap.size w w' := by
  obtain ⟨a1, c1, rfl, -, hl1, -, hcell⟩ := h.form
  have HC := Lib.hid hcell
  clear h hcell
  by_cases h0 : l.length = 0
  · have HF : Hid (allR (l.length - 1) (fun i => ordY (ixY l i) (ixY l (i + 1))) = true) := Lib.hid (allR_true fun j hj => by omega)
    rw [h0]
    rw [h0] at HF
    go_enter Tryz.func126, Tryz.ntmps126
    go_wp2
    go_loopw [5] (fun i wx => i = .int .i64 (-1) ∧ Below w.heap.size w wx) (fun _ _ => 0)
    case atStart => exact ⟨rfl, Below.refl _ _⟩
    case round =>
      obtain ⟨rfl, hb⟩ := hrel
      go_wp2
      go_ret
      exact ⟨ret_bool HF.out.symm, hb⟩
  · obtain ⟨n, hn⟩ : ∃ n, l.length = n + 1 := ⟨l.length - 1, by omega⟩
    have e1 : l.length - 1 = n := by omega
    have e2 : (l.length : Int) - 1 = n := by omega
    rw [e1]
    go_enter Tryz.func126, Tryz.ntmps126
    go_wp2
    try rw [e2]
    go_loopw [5] (fun i wx => IsrRel n (fun i => ordY (ixY l i) (ixY l (i + 1))) w i wx) (fun i _ => (intOf i).toNat)
    case atStart => exact ⟨n, Nat.le_refl _, rfl, fun j h1 h2 => by omega, Below.refl _ _⟩
    case round =>
      obtain ⟨k, hk, rfl, hall, hb⟩ := hrel
      have HA := Lib.hid hall
      have HB := Lib.hid hb
      clear hall
      by_cases hk0 : 0 < k
      · obtain ⟨q, rfl⟩ : ∃ q, k = q + 1 := ⟨k - 1, by omega⟩
        obtain ⟨b, off, rfl, hbl, hc⟩ := HC.out (by omega)
        have hlr : b < wr.heap.size := Nat.lt_of_lt_of_le hbl hb.size
        have key : ∀ e : Ext wr, ∀ o, e.world.cell? ⟨b, o, none⟩ = w.cell? ⟨b, o, none⟩ := fun e o => (bcell e.below _ _ hlr).trans (bcell hb _ _ hbl)
        obtain ⟨p0, p1, p2⟩ := hc (q + 1) (by omega)
        obtain ⟨q0, q1, q2⟩ := hc q (by omega)
        have k10 : ∀ e : Ext wr, e.world.cell? ⟨b, off + (q + 1) * 3, none⟩ = some (.int .i64 (ixY l (q + 1)).atom) := fun e => (key e _).trans p0
        have k11 : ∀ e : Ext wr, e.world.cell? ⟨b, off + (q + 1) * 3 + 1, none⟩ = some (.int .i64 (ixY l (q + 1)).rule) := fun e => (key e _).trans p1
        have k12 : ∀ e : Ext wr, e.world.cell? ⟨b, off + (q + 1) * 3 + 2, none⟩ = some (.int .i64 (ixY l (q + 1)).level) := fun e => (key e _).trans p2
        have k20 : ∀ e : Ext wr, e.world.cell? ⟨b, off + q * 3, none⟩ = some (.int .i64 (ixY l q).atom) := fun e => (key e _).trans q0
        have k21 : ∀ e : Ext wr, e.world.cell? ⟨b, off + q * 3 + 1, none⟩ = some (.int .i64 (ixY l q).rule) := fun e => (key e _).trans q1
        have k22 : ∀ e : Ext wr, e.world.cell? ⟨b, off + q * 3 + 2, none⟩ = some (.int .i64 (ixY l q).level) := fun e => (key e _).trans q2
        have eq1 : ((q + 1 : Nat) : Int) - 1 = q := by omega
        have HL : Hid (∀ e : Ext wr, Calls Tryz.prog 127 #[.agg #[.int .i64 (ixY l (q + 1)).atom, .int .i64 (ixY l (q + 1)).rule, .int .i64 (ixY l (q + 1)).level], .agg #[.int .i64 (ixY l q).atom, .int .i64 (ixY l q).rule, .int .i64 (ixY l q).level]] e.world fun r w' => r = .returned (.int .i64 (ordVal (ixY l (q + 1)) (ixY l q))) ∧ Below e.world.heap.size e.world w') := Lib.hid fun e => ordc_any _ _ _
        have hov := ordVal_lt (ixY l q) (ixY l (q + 1))
        obtain ⟨ov, hovv⟩ : ∃ ov, ordVal (ixY l (q + 1)) (ixY l q) = ov := ⟨_, rfl⟩
        rw [hovv] at HL hov
        clear hovv hb hc p0 p1 p2 q0 q1 q2 key
        cases hg : ordY (ixY l q) (ixY l (q + 1)) with
        | false =>
          rw [hg] at hov
          have hov2 : ov < 0 := by simpa using hov
          have HF : Hid (allR n (fun i => ordY (ixY l i) (ixY l (i + 1))) = false) := Lib.hid (allR_false q (by omega) hg)
          clear hg hov
          go_upto_region 4 with fail
          refine wp_region_ext (by kernel_rfl) (by kernel_rfl) ?_
          repeat (go_big_quiet_step ((go_at_call 127; exact Calls.ext_of (HL.out _))))
          refine wpQuiet_nil ?_
          intro w9 hw'
          obtain ⟨e9, he9⟩ := hw'
          have hb9 := e9.below
          rw [← he9] at hb9
          clear he9 e9
          try dsimp only
          go_wp2
          go_ret
          exact ⟨ret_bool HF.out.symm, bon HB.out hb9⟩
        | true =>
          rw [hg] at hov
          have hov2 : ¬ ov < 0 := by simpa using hov
          have HN : Hid (∀ j, q ≤ j → j < n → ordY (ixY l j) (ixY l (j + 1)) = true) := Lib.hid fun j h1 h2 => by
            by_cases e : j = q
            · subst e; exact hg
            · exact HA.out j (by omega) h2
          clear hg hov
          go_upto_region 4 with fail
          refine wp_region_ext (by kernel_rfl) (by kernel_rfl) ?_
          repeat (go_big_quiet_step ((go_at_call 127; exact Calls.ext_of (HL.out _))))
          refine wpQuiet_nil ?_
          intro w9 hw'
          obtain ⟨e9, he9⟩ := hw'
          have hb9 := e9.below
          rw [← he9] at hb9
          clear he9 e9
          try dsimp only
          go_wp2
          first
            | (go_roundw
               case rel => (exact ⟨q, by omega, by go_num, HN.out, bon HB.out hb9⟩)
               case measure => (simp [intOf]))
            | (refine ⟨?_, ?_⟩
               · (exact ⟨q, by omega, by go_num, HN.out, bon HB.out hb9⟩)
               · (simp [intOf]))
      · obtain rfl : k = 0 := by omega
        have HF : Hid (allR n (fun i => ordY (ixY l i) (ixY l (i + 1))) = true) := Lib.hid (allR_true fun j hj => HA.out j (Nat.zero_le _) hj)
        go_wp2
        go_ret
        exact ⟨ret_bool HF.out.symm, HB.out⟩
theorem ordered_anyY (v : Value) (l : List WY) (w : World) (h : WhysIs w v l) :
    Calls Tryz.prog 93 #[v] w fun e w' => e = .returned (.bool (allR (l.length - 1) (fun i => ordY (ixY l i) (ixY l (i + 1))))) ∧ Below w.heap.size w w' := by
  have H := Lib.hid h
  obtain ⟨a1, c1, rfl, -⟩ := h.form
  clear h
  go_enter Tryz.func93, Tryz.ntmps93
  go_wp2_with (go_at_call 126; (with_reducible refine (isSortedY_any _ l _ H.out).mono ?_); rintro e w1 ⟨rfl, hb1⟩)
  go_ret
  exact ⟨rfl, hb1⟩
set_option maxHeartbeats 2000000 in
set_option maxRecDepth 100000 in
theorem vc_any (y : WY) (p : GP) (m lv : List Int) (n vn vs vr vm : Value) (bd ib mb lb pb : Nat) (w : World) (hd : DvF w bd ib mb lb m lv) (hp : Blk w pb [n, vn, vs, vr, vm] 27) (hr : RulesIs w vr p.rules) (hv : validE p = 0)
    (hi : 0 ≤ y.rule ∧ y.rule < p.rules.length) (hl : 1 ≤ y.level ∧ InI y.level) (hm : ∀ x ∈ m, 1 ≤ x ∧ x < lv.length) :
    Calls Tryz.prog 95 #[.agg #[.int .i64 y.atom, .int .i64 y.rule, .int .i64 y.level], .pointer (some ⟨bd, 0, none⟩), .pointer (some ⟨pb, 0, none⟩)] w fun e w' => e = .returned (.bool (!derT (lvT m lv (y.level - 1)) m (ixR p.rules y.rule.toNat) y.atom)) ∧ Below w.heap.size w w' := by
  obtain ⟨a1, c1, rfl, -, hl1, -, hcell⟩ := hr.form
  obtain ⟨i, hi0⟩ : ∃ i : Nat, y.rule = i := ⟨y.rule.toNat, by omega⟩
  have hil : i < p.rules.length := by omega
  rw [hi0, Int.toNat_natCast]
  obtain ⟨b, off, rfl, hbl, hc⟩ := hcell (by omega)
  obtain ⟨vh, vb, vw, ⟨k0, k1, k2, k3, k4, k5⟩, hsl⟩ := hc i hil
  have hal := bal (Below.refl w.heap.size w) (.cells #[.int .i64 y.atom, .int .i64 (i : Int), .int .i64 y.level] 49)
  have HAL := Lib.hid hal
  have HY := Lib.hid (Blk.new w [.int .i64 y.atom, .int .i64 (i : Int), .int .i64 y.level] 49)
  obtain ⟨v, h1, h2⟩ := hd.lvs
  have HD : Hid (∀ e : Ext (w.alloc (.cells #[.int .i64 y.atom, .int .i64 (i : Int), .int .i64 y.level] 49)), Calls Tryz.prog 88 #[.agg #[.bool (ixR p.rules i).choice, vh, .bool (ixR p.rules i).sum, .int .i64 (ixR p.rules i).bound, vb, vw], .int .i64 y.atom, .int .i64 (y.level - 1), .pointer (some ⟨ib, 0, none⟩), .pointer (some ⟨lb, 0, none⟩)] e.world fun r w' => r = .returned (.bool (derT (lvT m lv (y.level - 1)) m (ixR p.rules i) y.atom)) ∧ Below e.world.heap.size e.world w') := Lib.hid fun e =>
    der_any _ (ixR p.rules i) y.atom (y.level - 1) m lv ib lb mb v e.world ⟨_, _, _, rfl, hsl.below (bon hal e.below)⟩ (hd.inf.below (bon hal e.below)) (h1.below (bon hal e.below)) (h2.below (bon hal e.below)) (dvOk_valid hv hil) hm
  have hly := hl.2
  have hly1 := hl.1
  unfold InI at hly
  have hwr : wrap64 (y.level - 1) = y.level - 1 := by unfold wrap64; omega
  have kd : ∀ e : Ext (w.alloc (.cells #[.int .i64 y.atom, .int .i64 (i : Int), .int .i64 y.level] 49)), e.world.cell? ⟨bd, 0, none⟩ = some (.func (.func 88) #[] #[.pointer (some ⟨ib, 0, none⟩), .pointer (some ⟨lb, 0, none⟩)]) := fun e => (bcell (bon hal e.below) _ _ hd.fn.lt).trans (hd.fn.cell 0)
  have kp : ∀ e : Ext (w.alloc (.cells #[.int .i64 y.atom, .int .i64 (i : Int), .int .i64 y.level] 49)), ∀ o, e.world.cell? ⟨pb, o, none⟩ = _ := fun e o => (bcell (bon hal e.below) _ o hp.lt).trans (hp.cell o)
  have ky : ∀ e : Ext (w.alloc (.cells #[.int .i64 y.atom, .int .i64 (i : Int), .int .i64 y.level] 49)), ∀ o, e.world.cell? ⟨w.heap.size, o, none⟩ = _ := fun e o => (bcell e.below _ o HY.out.lt).trans (HY.out.cell o)
  have r0 : ∀ e : Ext (w.alloc (.cells #[.int .i64 y.atom, .int .i64 (i : Int), .int .i64 y.level] 49)), ∀ o u, w.cell? ⟨b, o, none⟩ = some u → e.world.cell? ⟨b, o, none⟩ = some u := fun e o u hu => (bcell (bon hal e.below) _ o hbl).trans hu
  have m0 : ∀ e : Ext (w.alloc (.cells #[.int .i64 y.atom, .int .i64 (i : Int), .int .i64 y.level] 49)), e.world.cell? ⟨b, off + i * 6, none⟩ = _ := fun e => r0 e _ _ k0
  have m1 : ∀ e : Ext (w.alloc (.cells #[.int .i64 y.atom, .int .i64 (i : Int), .int .i64 y.level] 49)), e.world.cell? ⟨b, off + i * 6 + 1, none⟩ = _ := fun e => r0 e _ _ k1
  have m2 : ∀ e : Ext (w.alloc (.cells #[.int .i64 y.atom, .int .i64 (i : Int), .int .i64 y.level] 49)), e.world.cell? ⟨b, off + i * 6 + 2, none⟩ = _ := fun e => r0 e _ _ k2
  have m3 : ∀ e : Ext (w.alloc (.cells #[.int .i64 y.atom, .int .i64 (i : Int), .int .i64 y.level] 49)), e.world.cell? ⟨b, off + i * 6 + 3, none⟩ = _ := fun e => r0 e _ _ k3
  have m4 : ∀ e : Ext (w.alloc (.cells #[.int .i64 y.atom, .int .i64 (i : Int), .int .i64 y.level] 49)), e.world.cell? ⟨b, off + i * 6 + 4, none⟩ = _ := fun e => r0 e _ _ k4
  have m5 : ∀ e : Ext (w.alloc (.cells #[.int .i64 y.atom, .int .i64 (i : Int), .int .i64 y.level] 49)), e.world.cell? ⟨b, off + i * 6 + 5, none⟩ = _ := fun e => r0 e _ _ k5
  clear hal hd hp hr hc k0 k1 k2 k3 k4 k5 hsl h1 h2 hm hl hi hcell hi0 r0
  go_enter Tryz.func95, Tryz.ntmps95
  go_upto_region 1 with fail
  generalize w.alloc (.cells #[.int .i64 y.atom, .int .i64 (i : Int), .int .i64 y.level] 49) = W at *
  refine wp_region_ext (by kernel_rfl) (by kernel_rfl) ?_
  repeat (go_big_quiet_step ((go_at_call 88; with_reducible exact Calls.ext_of (HD.out _))))
  refine wpQuiet_nil ?_
  intro w9 hw'
  obtain ⟨e9, he9⟩ := hw'
  have hb9 := e9.below
  rw [← he9] at hb9
  clear he9 e9
  try dsimp only
  go_wp2
  go_ret
  exact ⟨rfl, bon HAL.out hb9⟩
set_option maxHeartbeats 1000000 in
theorem idxY_vc (v : Value) (l : List WY) (w : World) (h : WhysIs w v l) (g : Nat → Bool) (k1 k2 : Value)
    (hg : ∀ w', Below w.heap.size w w' → ∀ j, j < l.length → Calls Tryz.prog 95 #[.agg #[.int .i64 (ixY l j).atom, .int .i64 (ixY l j).rule, .int .i64 (ixY l j).level], k1, k2] w' fun e w'' => e = .returned (.bool (g j)) ∧ Below w'.heap.size w' w'') :
    Calls Tryz.prog 129 #[v, .func (.func 95) #[] #[k1, k2]] w fun e w' => ∃ r, e = .returned (.int .i64 r) ∧ IxP l.length g r ∧ Below w.heap.size w w' := by
  obtain ⟨a1, c1, rfl, -, hl1, -, hcell⟩ := h.form
  have HG := Lib.hid hg
  clear h hg
  go_enter Tryz.func129, Tryz.ntmps129
  go_wp2
  go_loopw [8] (fun i wx => IxR l.length g w i wx) (fun i _ => l.length - (intOf i).toNat)
  case atStart => exact ⟨0, by omega, rfl, fun j hj => absurd hj (Nat.not_lt_zero _), Below.refl _ _⟩
  case round =>
    obtain ⟨k, hk, rfl, hall, hb⟩ := hrel
    have HA := Lib.hid hall
    clear hall
    by_cases hlt : k < l.length
    · obtain ⟨b, off, rfl, hbl, hc⟩ := hcell (by omega)
      obtain ⟨k0, k1, k2⟩ := hc k hlt
      have hk0 := (bcell hb _ _ hbl).trans k0
      have hk1 := (bcell hb _ _ hbl).trans k1
      have hk2 := (bcell hb _ _ hbl).trans k2
      clear hc hcell k0 k1 k2
      cases g1 : g k with
      | true =>
        have HK : Hid (_ = true) := Lib.hid g1
        have HC := Lib.hid (HG.out _ hb k hlt)
        rw [g1] at HC
        clear g1
        go_wp2_with (go_at_call 95; refine (HC.out).mono ?_; rintro e w1 ⟨rfl, hb1⟩)
        go_ret
        exact ⟨_, rfl, .inr ⟨k, hlt, rfl, HK.out, HA.out⟩, bon hb hb1⟩
      | false =>
        have HN := Lib.hid (lt_succ_all HA.out g1)
        have HC := Lib.hid (HG.out _ hb k hlt)
        rw [g1] at HC
        clear g1
        go_wp2_with (go_at_call 95; refine (HC.out).mono ?_; rintro e w1 ⟨rfl, hb1⟩)
        first
          | (go_roundw
             case rel => (exact ⟨k + 1, by omega, by go_num, HN.out, bon hb hb1⟩)
             case measure => (simp [intOf]; omega))
          | (refine ⟨?_, ?_⟩
             · (exact ⟨k + 1, by omega, by go_num, HN.out, bon hb hb1⟩)
             · (simp [intOf]; omega))
    · have HN : Hid (∀ j, j < l.length → g j = false) := Lib.hid (fun j hj => HA.out j (by omega))
      go_wp2
      go_ret
      exact ⟨_, rfl, .inl ⟨rfl, HN.out⟩, hb⟩
set_option maxHeartbeats 1000000 in
theorem ctnY_vc (v : Value) (l : List WY) (w : World) (h : WhysIs w v l) (g : Nat → Bool) (k1 k2 : Value)
    (hg : ∀ w', Below w.heap.size w w' → ∀ j, j < l.length → Calls Tryz.prog 95 #[.agg #[.int .i64 (ixY l j).atom, .int .i64 (ixY l j).rule, .int .i64 (ixY l j).level], k1, k2] w' fun e w'' => e = .returned (.bool (g j)) ∧ Below w'.heap.size w' w'') :
    Calls Tryz.prog 94 #[v, .func (.func 95) #[] #[k1, k2]] w fun e w' => e = .returned (.bool (anyR l.length g)) ∧ Below w.heap.size w w' := by
  have HI := Lib.hid (idxY_vc v l w h g k1 k2 hg)
  obtain ⟨a1, c1, rfl, -⟩ := h.form
  clear h hg
  go_enter Tryz.func94, Tryz.ntmps94
  go_wp2_with (go_at_call 129; refine (HI.out).mono ?_; rintro e w1 ⟨r, rfl, hr, hb1⟩; have HR := Lib.hid hr; clear hr)
  go_ret
  exact ⟨ret_bool HR.out.any, hb1⟩
theorem srt_eq {L m : List Int} (hm : m.Pairwise (· < ·)) : decide (srt L = m) = decide (L.Perm m) := by
  have hn : m.Nodup := hm.imp fun h => Int.ne_of_lt h
  rw [decide_eq_decide]
  constructor
  · intro h
    rw [← h]
    exact (List.mergeSort_perm L _).symm
  · intro h
    have hL : L.Nodup := h.nodup_iff.2 hn
    have hs : (srt L).Nodup := (List.mergeSort_perm L _).nodup_iff.2 hL
    have hp : (srt L).Pairwise (· < ·) := by
      have h1 := (sortI_pairwise L).and hs
      exact h1.imp fun ⟨a, b⟩ => Int.lt_iff_le_and_ne.2 ⟨a, b⟩
    exact sorted_eqP hp hm fun x => (sortI_mem L x).trans h.mem_iff
def OwnL (B : Nat) (w : World) (v : Value) (L : List Int) : Prop := w.ownsRow B 3 1 v L.length (L.map (Value.int .i64)) ∧ Fits L ∧ L.length * 8 ≤ 140737488355328
theorem OwnI.ownL {B : Nat} {w : World} {v : Value} {L : List Int} (h : OwnI B w v L) : OwnL B w v L := by
  obtain ⟨⟨hrow, h8⟩, hfit⟩ := h
  rw [ix_map] at hrow
  exact ⟨hrow, hfit, by omega⟩
theorem OwnL.ownI {B : Nat} {w : World} {v : Value} {L : List Int} (h : OwnL B w v L) (h8 : L.length * 8 ≤ 140737488351232) : OwnI B w v L := ⟨⟨by rw [ix_map]; exact h.1, h8⟩, h.2.1⟩
theorem OwnL.same {B : Nat} {w w' : World} {v : Value} {l : List Int} (h : OwnL B w v l) (hs : ∀ i, B ≤ i → i < w.heap.size → v.ownBlock = some i → w'.heap[i]? = w.heap[i]?) : OwnL B w' v l := by
  obtain ⟨⟨h1, h2⟩, h3⟩ := h
  refine ⟨⟨h1, ?_⟩, h3⟩
  rcases h2 with hn | ⟨g, cap, cur, rfl, hb, hg, rest⟩
  · exact .inl hn
  · exact .inr ⟨g, cap, cur, rfl, hb, (hs g hb (Array.getElem?_eq_some_iff.1 hg).1 rfl).trans hg, rest⟩
theorem OwnL.below {B : Nat} {w w' : World} {v : Value} {l : List Int} (h : OwnL B w v l) (hb : Below w.heap.size w w') : OwnL B w' v l := h.same fun i _ hi _ => hb.block i hi
theorem OwnL.slen {B : Nat} {w : World} {v : Value} {l : List Int} (h : OwnL B w v l) : ∃ a c, v = .slice a l.length c := by
  rcases h.1.2 with ⟨rfl, h0⟩ | ⟨g, cap, cur, rfl, _⟩
  · rw [h0]; exact ⟨_, _, rfl⟩
  · exact ⟨_, _, rfl⟩
theorem OwnL.lt {B : Nat} {w : World} {v : Value} {l : List Int} (h : OwnL B w v l) {g : Nat} (e : v.ownBlock = some g) : B ≤ g ∧ g < w.heap.size := by
  rcases h.1.2 with ⟨rfl, _⟩ | ⟨g', cap, cur, rfl, hb, hg, _⟩
  · cases e
  · have : g' = g := by simpa [Value.ownBlock] using e
    subst this
    exact ⟨hb, (Array.getElem?_eq_some_iff.1 hg).1⟩
theorem wpList_appendO {ops : Array Oper} {rest : List Oper} {o : Oper} {a : Act} {w : World} {Q : Exit → Act → World → Prop} (hgd : o.guard = none) (s x : Operand)
    (ho : o.op = .call { callee := .builtin .append, args := #[s, x], argTypes := #[23, 23] }) (B g0 : Nat) (v : Value) (L : List Int) (z : Int) (hs : a.eval s = v) (hx : a.eval x = .slice (some ⟨g0, 0, none⟩) 1 1) (h : OwnL B w v L) (hy : Blk w g0 [.int .i64 z] 3) (hz : InI z)
    (hlen : (L.length + 1) * 8 ≤ 140737488355328) (hbase : B ≤ w.heap.size)
    (hK : ∀ g cap w', OwnL B w' (.slice (some ⟨g, 0, none⟩) (L.length + 1) cap) (L ++ [z]) → w.grownBy w' v.ownBlock → wpList Tryz.prog ops Q rest (a.put o.dst (.slice (some ⟨g, 0, none⟩) (L.length + 1) cap)) w') : wpList Tryz.prog ops Q (o :: rest) a w := by
  obtain ⟨i0, hi, hz0, hz1, hz2⟩ := info_parts infoI
  obtain ⟨hrow, hfit, h8⟩ := h
  refine wpList_append_own w hgd s x _ ho B 3 i0 _ 1 8 Tryz.underlying23 hi hz0 hz1 hz2 rfl (by decide) _ L.length (L.map (Value.int .i64)) hs hrow ⟨g0, 0, none⟩ 1 1 [.int .i64 z] hx rfl (fun j u hu => ?_) (fun u hu => ?_) (by unfold maxLen; omega) (by omega) hbase (fun v' w' h1 h2 _ => ?_)
  · have hj : j = 0 := by have := (List.getElem?_eq_some_iff.1 hu).1; simp at this; exact this
    subst hj
    rw [Addr.add_lit, Nat.zero_add, hy.cell]
    exact hu
  · obtain rfl : u = .int .i64 z := by simpa using hu
    rfl
  · have hne : ∃ g2 cap2, v' = .slice (some ⟨g2, 0, none⟩) (L.length + 1) cap2 := by
      rcases h1.2 with ⟨-, h0⟩ | ⟨g2, cap2, cur2, rfl, _⟩
      · omega
      · exact ⟨g2, cap2, rfl⟩
    obtain ⟨g2, cap2, rfl⟩ := hne
    refine hK g2 cap2 w' ⟨?_, hfit.app (fitI fun y hy => (List.mem_singleton.1 hy) ▸ hz), by rw [List.length_append, List.length_singleton]; omega⟩ h2
    rw [List.map_append, List.length_append, List.length_singleton]
    exact h1
open Go.Sort in
theorem sortL_own {base : Nat} {w : World} {v : Value} {l : List Int} (h : OwnL base w v l) :
    Calls Tryz.prog 46 #[v] w fun e w' => e = .returned (.tuple #[]) ∧ OwnL base w' v (srt l) ∧ w.grownBy w' v.ownBlock := by
  have hfit : Fits (srt l) := fits_mem h.2.1 fun x hx => (sortI_mem l x).1 hx
  have hlen := sortI_len l
  have hb8 := h.2.2
  rcases h.1.2 with ⟨rfl, e⟩ | ⟨g, cap, cur, rfl, hb, hg, hn, hm, hs, hx⟩
  · have e0 : l = [] := List.eq_nil_of_length_eq_zero e
    subst e0
    refine (Tryz.slices_Sort_int_none none 0 w).mono ?_
    rintro e w' ⟨rfl, rfl⟩
    refine ⟨rfl, ?_, ⟨rfl, rfl, rfl, Nat.le_refl _, fun _ _ _ => rfl⟩⟩
    have e2 : srt [] = [] := by simp [srt]
    rw [e2]; exact h
  · have hH := holds_of_blockI (ss := l) hg (by simpa using hx)
    have hc := Tryz.slices_Sort_int g 0 cap l w hH (Array.getElem?_eq_some_iff.1 hg).1 (by omega)
    refine hc.mono ?_
    rintro e w' ⟨rfl, n, os, rfl⟩
    refine ⟨rfl, ⟨?_, hfit, by rw [hlen]; exact hb8⟩, grownBy_sortedI _⟩
    have h2 := ownsRow_sortedI (n := n) (os := os) (base := base) (ts := srt l) hlen hb hg hn hm hs
    rw [hlen]
    exact h2
theorem sEqual_len (a1 a2 : Option Addr) (n1 n2 c1 c2 : Nat) (w : World) (hn : n1 ≠ n2) (_h1 : n1 ≤ 1000000000000000 ∧ n2 ≤ 1000000000000000) :
    Calls Tryz.prog 91 #[.slice a1 n1 c1, .slice a2 n2 c2] w fun e w' => e = .returned (.bool false) ∧ Below w.heap.size w w' := by
  have hb : ((n1 : Int) != (n2 : Int)) = true := by simp; omega
  go_enter Tryz.func91, Tryz.ntmps91
  go_wp2
  go_ret
  exact ⟨rfl, Below.refl _ _⟩
theorem sEqualL_any (v1 v2 : Value) (l1 l2 : List Int) (B : Nat) (w : World) (h1 : OwnL B w v1 l1) (h2 : Ints w v2 l2) (hl : l2.length ≤ 100000) :
    Calls Tryz.prog 91 #[v1, v2] w fun e w' => e = .returned (.bool (decide (l1 = l2))) ∧ Below w.heap.size w w' := by
  by_cases hlen : l1.length = l2.length
  · exact sEqual_any v1 v2 l1 l2 w (h1.ownI (by omega)).ints h2
  · obtain ⟨a1, c1, rfl⟩ := h1.slen
    obtain ⟨a2, c2, rfl, -⟩ := h2.form
    rw [decide_eq_false (fun e => hlen (by rw [e]))]
    exact sEqual_len _ _ _ _ _ _ w hlen (by have := h1.2.2; omega)
def VlRel (p : GP) (x : XP) (N : Nat) (W0 : World) (va i : Value) (wx : World) : Prop :=
  ∃ j : Nat, j ≤ x.whys.length ∧ i = .int .i64 j ∧ (∀ q, q < j → rngY p (ixY x.whys q) = true) ∧ Blk wx W0.heap.size ((lvL N (x.whys.take j)).map (Value.int .i64)) 3 ∧ OwnL (W0.heap.size + 1) wx va (x.rest ++ atomsY (x.whys.take j)) ∧ Below W0.heap.size W0 wx
end Go.Proofs.YtgakoainjgjimaaGreatDoor
