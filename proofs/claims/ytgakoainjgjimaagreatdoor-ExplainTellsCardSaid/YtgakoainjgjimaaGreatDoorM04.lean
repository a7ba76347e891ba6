/- My texts Gp5, Plain1, Off, QRow, Fn0, Lp1, Mem, LeastP, merged. -/
import Derived.Test.YtgakoainjgjimaaGreatDoorM03
import Derived.Test.YtgakoainjgjimaaGreatDoorM00
import Derived.Test.YtgakoainjgjimaaGreatDoorProg
import Derived.WalkKit
import Derived.Lib.Hide
import Derived.Deep.QuietTactic
import Derived.BigQuiet
import Derived.Lib.Bytealg
import Derived.MapKept
import Derived.Maps.OwnSet
import Derived.Maps.OwnOps
import Derived.WalkSpells
import Derived.Lib.SliceRun
import Derived.Test.YtgakoainjgjimaaGreatDoorM02
import Derived.Test.YtgakoainjgjimaaGreatDoorM01
import Derived.Deep.AppendLies
import Derived.Deep.DeepCutAuto

namespace Go.Proofs.YtgakoainjgjimaaGreatDoor
open Go.RowKit
def rulesFrom (l : List GR) (n : Int) : Nat → Nat → Int
  | _, 0 => 0
  | k, m + 1 => if ruleE (ixR l k) n ≠ 0 then ruleE (ixR l k) n else rulesFrom l n (k + 1) m
def rulesE (l : List GR) (n : Int) : Int := rulesFrom l n 0 l.length
def minAt (l : List GM) (n : Int) (i : Nat) : Bool :=
  orderedB (ixM l i).lits n && weightsB (ixM l i).w (ixM l i).lits.length && decide (-2147483647 ≤ (ixM l i).level ∧ (ixM l i).level ≤ 2147483647) && (i == 0 || decide ((ixM l i).level < (ixM l (i - 1)).level))
def minsB (l : List GM) (n : Int) : Bool := allR l.length (minAt l n)
def validE (p : GP) : Int :=
  if namedB p = false then 170 else if 40000 < p.rules.length then 171 else if rulesE p.rules p.n ≠ 0 then rulesE p.rules p.n else if 8 < p.min.length then 175 else if minsB p.min p.n = false then 175 else 0
def ValidPost (p : GP) (w : World) (e : Ending) (w' : World) : Prop := e = .returned (.int .i64 (validE p)) ∧ Below w.heap.size w w'
theorem rulesFrom_split (l : List GR) (n : Int) : ∀ (k : Nat), k ≤ l.length → (∀ j, j < k → ruleE (ixR l j) n = 0) → rulesE l n = rulesFrom l n k (l.length - k)
  | 0, _, _ => rfl
  | k + 1, hk, h => by
    rw [rulesFrom_split l n k (by omega) (fun j hj => h j (by omega))]
    have e : l.length - k = (l.length - (k + 1)) + 1 := by omega
    rw [e, rulesFrom, if_neg (by simpa using h k (by omega))]
def VRel1 (l : List GR) (n : Int) (w : World) (i : Value) (wr : World) : Prop :=
  ∃ k : Nat, k ≤ l.length ∧ i = .int .i64 k ∧ (∀ j, j < k → ruleE (ixR l j) n = 0) ∧ Below w.heap.size w wr
def VRel2 (l : List GM) (n : Int) (w : World) (i : Value) (wr : World) : Prop :=
  ∃ k : Nat, k ≤ l.length ∧ i = .int .i64 k ∧ (∀ j, j < k → minAt l n j = true) ∧ Below w.heap.size w wr
set_option maxHeartbeats 1000000 in
set_option maxRecDepth 100000 in
theorem valid_any (v : Value) (p : GP) (w : World) (h : ProgIs w v p) :
    Calls Tryz.prog 65 #[v] w (ValidPost p w) := by
  have h0 := h
  obtain ⟨vn, vs, vr, vm, rfl, hn, hnames, hshown, hrules, hmin⟩ := h
  have hal := bal (Below.refl w.heap.size w) (.cells #[.int .i64 p.n, vn, vs, vr, vm] 27)
  have HP := Lib.hid (h0.below hal)
  clear h0 hnames hshown
  obtain ⟨a1, c1, rfl, -, hl1, -, hcell⟩ := hrules.form
  obtain ⟨a2, c2, rfl, -, hl2, -, hmcell⟩ := hmin.form
  clear hrules hmin
  cases h1 : namedB p with
  | false =>
    have HF : Hid (validE p = 170) := Lib.hid (by simp [validE, h1])
    go_enter Tryz.func65, Tryz.ntmps65
    go_wp2_with (go_at_call 105; refine (named_any _ p _ HP.out).mono ?_; rintro e w1 ⟨rfl, hb1⟩; have hc1 := bcell hb1; have hz1 : w.heap.size < w1.heap.size := (by have := hb1.size; simp at this; omega))
    go_ret
    exact ⟨ret_int HF.out.symm, bon hal hb1⟩
  | true =>
  by_cases h2 : 40000 < p.rules.length
  · have HF : Hid (validE p = 171) := Lib.hid (by simp [validE, h1, h2])
    go_enter Tryz.func65, Tryz.ntmps65
    go_wp2_with (go_at_call 105; refine (named_any _ p _ HP.out).mono ?_; rintro e w1 ⟨rfl, hb1⟩; have hc1 := bcell hb1; have hz1 : w.heap.size < w1.heap.size := (by have := hb1.size; simp at this; omega))
    go_ret
    exact ⟨ret_int HF.out.symm, bon hal hb1⟩
  have HF : Hid (validE p = if rulesE p.rules p.n ≠ 0 then rulesE p.rules p.n else if 8 < p.min.length then 175 else if minsB p.min p.n = false then 175 else 0) := Lib.hid (by simp [validE, h1, h2])
  have hn4 : 0 ≤ p.n ∧ p.n ≤ 4000 := by simp only [namedB, Bool.and_eq_true, decide_eq_true_eq] at h1; omega
  go_enter Tryz.func65, Tryz.ntmps65
  go_wp2_with (go_at_call 105; refine (named_any _ p _ HP.out).mono ?_; rintro e w1 ⟨rfl, hb1⟩; have hc1 := bcell hb1; have hz1 : w.heap.size < w1.heap.size := (by have := hb1.size; simp at this; omega))
  obtain ⟨W, hW⟩ : ∃ W, W = (w.alloc (.cells #[.int .i64 p.n, vn, vs, .slice a1 p.rules.length c1, .slice a2 p.min.length c2] 27)) := ⟨_, rfl⟩
  go_loopw [20] (VRel1 p.rules p.n W) (fun i _ => p.rules.length - (intOf i).toNat)
  case atStart => exact ⟨0, by omega, rfl, fun j hj => absurd hj (Nat.not_lt_zero _), by rw [hW]; exact hb1⟩
  case round =>
    obtain ⟨k, hk, rfl, hok, hb⟩ := hrel
    have HOK := Lib.hid hok
    clear hok
    have hsW : w.heap.size < W.heap.size := by rw [hW]; simp
    have hsr : w.heap.size < wr.heap.size := Nat.lt_of_lt_of_le hsW hb.size
    have q0 : wr.cell? ⟨w.heap.size, 0, none⟩ = some (.int .i64 p.n) := by rw [bcell hb _ _ hsW, hW]; go_simp
    have q3 : wr.cell? ⟨w.heap.size, 4, none⟩ = some (.slice a2 p.min.length c2) := by rw [bcell hb _ _ hsW, hW]; go_simp
    clear hc1
    rw [← hW] at hal
    have hbw := bon hal hb
    clear hW
    by_cases hlt : k < p.rules.length
    · obtain ⟨b, off, rfl, hbl, hc⟩ := hcell (by omega)
      obtain ⟨vh, vb, vw, hcc, hsl⟩ := hc k hlt
      obtain ⟨r0, r1, r2, r3, r4, r5⟩ := hcc.below hbw hbl
      have HS := Lib.hid (hsl.below hbw)
      obtain ⟨a3, c3, rfl, -, hl3, -, -⟩ := hsl.head.form
      obtain ⟨a4, c4, rfl, -, hl4, -, -⟩ := hsl.body.form
      obtain ⟨a5, c5, rfl, -, hl5, -, -⟩ := hsl.wts.form
      have hbx : ∀ r, Below wr.heap.size wr (wr.alloc r) := fun r => bal (Below.refl _ _) r
      have HR : Hid (∀ w', Below wr.heap.size wr w' → RuleIs w' (.agg #[.bool (ixR p.rules k).choice, .slice a3 (ixR p.rules k).head.length c3, .bool (ixR p.rules k).sum, .int .i64 (ixR p.rules k).bound, .slice a4 (ixR p.rules k).body.length c4, .slice a5 (ixR p.rules k).w.length c5]) (ixR p.rules k)) := Lib.hid (fun w' hw => ⟨_, _, _, rfl, HS.out.below hw⟩)
      clear hc hcell hcc hsl
      by_cases hz : ruleE (ixR p.rules k) p.n = 0
      · have hz1 : (ruleE (ixR p.rules k) p.n == 0) = true := by simp [hz]
        have hz2 : (ruleE (ixR p.rules k) p.n != 0) = false := by simp [hz]
        have HZ := Lib.hid hz
        clear hz
        go_wp2_with (go_at_call 106; refine (rule_any _ _ _ _ (HR.out _ (hbx _))).mono ?_; rintro e w2 ⟨rfl, hb2⟩)
        first
          | (go_roundw
             case rel => (exact ⟨k + 1, by omega, by go_num, lt_succ_all HOK.out HZ.out, bon (bal hb _) hb2⟩)
             case measure => (simp [intOf]; omega))
          | (refine ⟨?_, ?_⟩
             · (exact ⟨k + 1, by omega, by go_num, lt_succ_all HOK.out HZ.out, bon (bal hb _) hb2⟩)
             · (simp [intOf]; omega))
      · have hz1 : (ruleE (ixR p.rules k) p.n == 0) = false := by simp [hz]
        have hz2 : (ruleE (ixR p.rules k) p.n != 0) = true := by simp [hz]
        have HZ := Lib.hid hz
        clear hz
        go_wp2_with (go_at_call 106; refine (rule_any _ _ _ _ (HR.out _ (hbx _))).mono ?_; rintro e w2 ⟨rfl, hb2⟩)
        go_ret
        refine ⟨ret_int ?_, bon (bal hbw _) hb2⟩
        have e1 : rulesE p.rules p.n = ruleE (ixR p.rules k) p.n := by
          rw [rulesFrom_split p.rules p.n k hk HOK.out, show p.rules.length - k = (p.rules.length - k - 1) + 1 by omega, rulesFrom, if_pos HZ.out]
        rw [HF.out, e1, if_pos HZ.out]
    · have e1 : rulesE p.rules p.n = 0 := by
        rw [rulesFrom_split p.rules p.n k hk HOK.out, show p.rules.length - k = 0 by omega]; rfl
      rw [e1] at HF
      by_cases h3 : 8 < p.min.length
      · go_wp2
        go_ret
        exact ⟨ret_int (by rw [HF.out]; simp [h3]), hbw⟩
      go_wp2
      clear HOK hlt hk e1
      have HBW := Lib.hid hbw
      clear hbw hb hal
      obtain ⟨wo, hwo⟩ : ∃ wo : World, wo = wr := ⟨_, rfl⟩
      rw [← hwo] at q0 q3 hsr HBW ⊢
      clear hwo
      go_loopw [39] (VRel2 p.min p.n wo) (fun i _ => p.min.length - (intOf i).toNat)
      case atStart => exact ⟨0, by omega, rfl, fun j hj => absurd hj (Nat.not_lt_zero _), Below.refl _ _⟩
      case round =>
        obtain ⟨k, hk, rfl, hok, hb⟩ := hrel
        have HOK := Lib.hid hok
        clear hok
        have hbw := bon HBW.out hb
        replace q0 := (bcell hb _ _ hsr).trans q0
        replace q3 := (bcell hb _ _ hsr).trans q3
        have hsr2 := Nat.lt_of_lt_of_le hsr hb.size
        by_cases hlt : k < p.min.length
        · obtain ⟨b, off, rfl, hbl, hc⟩ := hmcell (by omega)
          obtain ⟨vl, vw, hcc, hsl⟩ := hc k hlt
          obtain ⟨vl', vw', hcc', hsl'⟩ := hc (k - 1) (by omega)
          obtain ⟨m0, m1, m2⟩ := hcc.below hbw hbl
          obtain ⟨m0', -, -⟩ := hcc'.below hbw hbl
          have HS := Lib.hid (hsl.below hbw)
          obtain ⟨a3, c3, rfl, -, hl3, -, -⟩ := hsl.lits.form
          obtain ⟨a4, c4, rfl, -, hl4, -, -⟩ := hsl.wts.form
          have hlv := hsl.level
          have hlv' := hsl'.level
          unfold InI at hlv hlv'
          have hbr := Nat.lt_of_lt_of_le hbl hbw.size
          obtain ⟨W2, hW2⟩ : ∃ W2, W2 = wr.alloc (.cells #[.int .i64 (ixM p.min k).level, .slice a3 (ixM p.min k).lits.length c3, .slice a4 (ixM p.min k).w.length c4] 67) := ⟨_, rfl⟩
          have hbx : Below wr.heap.size wr W2 := by rw [hW2]; exact bal (Below.refl _ _) _
          have hz2 : wr.heap.size < W2.heap.size := by rw [hW2]; simp
          have HL : Hid (∀ e : Ext W2, Ints e.world (.slice a3 (ixM p.min k).lits.length c3) (ixM p.min k).lits) := Lib.hid (fun e => HS.out.lits.below (bon hbx e.below))
          have HW2 : Hid (∀ e : Ext W2, Ints e.world (.slice a4 (ixM p.min k).w.length c4) (ixM p.min k).w) := Lib.hid (fun e => HS.out.wts.below (bon hbx e.below))
          have x0 : ∀ e : Ext W2, e.world.cell? ⟨w.heap.size, 0, none⟩ = some (.int .i64 p.n) := fun e => (bcell (bon hbx e.below) _ _ hsr2).trans q0
          have x1 : ∀ e : Ext W2, e.world.cell? ⟨w.heap.size, 4, none⟩ = some (.slice (some ⟨b, off, none⟩) p.min.length c2) := fun e => (bcell (bon hbx e.below) _ _ hsr2).trans q3
          have x2 : ∀ e : Ext W2, e.world.cell? ⟨wr.heap.size, 0, none⟩ = some (.int .i64 (ixM p.min k).level) := fun e => (bcell e.below _ _ hz2).trans (by rw [hW2]; go_simp)
          have x3 : ∀ e : Ext W2, e.world.cell? ⟨wr.heap.size, 1, none⟩ = some (.slice a3 (ixM p.min k).lits.length c3) := fun e => (bcell e.below _ _ hz2).trans (by rw [hW2]; go_simp)
          have x4 : ∀ e : Ext W2, e.world.cell? ⟨wr.heap.size, 2, none⟩ = some (.slice a4 (ixM p.min k).w.length c4) := fun e => (bcell e.below _ _ hz2).trans (by rw [hW2]; go_simp)
          have x5 : ∀ e : Ext W2, e.world.cell? ⟨b, off + (k - 1) * 3, none⟩ = some (.int .i64 (ixM p.min (k - 1)).level) := fun e => (bcell (bon hbx e.below) _ _ hbr).trans m0'
          clear hc hmcell hcell hcc hcc' hsl hsl' m0'
          have hW2' := hW2.symm
          clear hW2
          have hbad : minAt p.min p.n k = false → Hid (validE p = 175) := fun h => Lib.hid (by rw [HF.out, minsB, allR_false k hlt h]; simp)
          have hmk : minAt p.min p.n k = (orderedB (ixM p.min k).lits p.n && weightsB (ixM p.min k).w (ixM p.min k).lits.length && decide (-2147483647 ≤ (ixM p.min k).level ∧ (ixM p.min k).level ≤ 2147483647) && (k == 0 || decide ((ixM p.min k).level < (ixM p.min (k - 1)).level))) := rfl
          have HMK := Lib.hid hmk
          have HBAD := Lib.hid hbad
          clear hmk hbad
          have hbw2 := fun (w9 : World) (hb9 : Below W2.heap.size W2 w9) => bon hbw (bon hbx hb9)
          have HFIN := Lib.hid hbw2
          have HFIN2 : Hid (∀ w9 : World, Below W2.heap.size W2 w9 → Below wo.heap.size wo w9) := Lib.hid (fun w9 hb9 => bon hb (bon hbx hb9))
          clear hbw2
          cases g1 : orderedB (ixM p.min k).lits p.n with
          | false =>
            have HB := HBAD.out (by rw [HMK.out, g1]; rfl)
            go_wp2
            refine wp_region_ext (by kernel_rfl) (by kernel_rfl) ?_
            repeat (go_big_quiet_step ((first | (go_at_call 107; exact Calls.ext_of (ordered_any _ _ _ _ (HL.out _) (by omega))) | (go_at_call 108; exact Calls.ext_of_same (weights_any _ _ _ _ (HW2.out _))))))
            refine wpQuiet_nil ?_
            intro _ hw'
            obtain ⟨⟨w9, hb9⟩, rfl⟩ := hw'
            try dsimp only
            go_wp2
            go_ret
            exact ⟨ret_int HB.out.symm, HFIN.out _ hb9⟩
          | true =>
          cases g2 : weightsB (ixM p.min k).w (ixM p.min k).lits.length with
          | false =>
            have HB := HBAD.out (by rw [HMK.out, g1, g2]; rfl)
            go_wp2
            refine wp_region_ext (by kernel_rfl) (by kernel_rfl) ?_
            repeat (go_big_quiet_step ((first | (go_at_call 107; exact Calls.ext_of (ordered_any _ _ _ _ (HL.out _) (by omega))) | (go_at_call 108; exact Calls.ext_of_same (weights_any _ _ _ _ (HW2.out _))))))
            refine wpQuiet_nil ?_
            intro _ hw'
            obtain ⟨⟨w9, hb9⟩, rfl⟩ := hw'
            try dsimp only
            go_wp2
            go_ret
            exact ⟨ret_int HB.out.symm, HFIN.out _ hb9⟩
          | true =>
          by_cases g3 : (ixM p.min k).level < -2147483647
          · have HB := HBAD.out (by rw [HMK.out, g1, g2]; simp; omega)
            go_wp2
            refine wp_region_ext (by kernel_rfl) (by kernel_rfl) ?_
            repeat (go_big_quiet_step ((first | (go_at_call 107; exact Calls.ext_of (ordered_any _ _ _ _ (HL.out _) (by omega))) | (go_at_call 108; exact Calls.ext_of_same (weights_any _ _ _ _ (HW2.out _))))))
            refine wpQuiet_nil ?_
            intro _ hw'
            obtain ⟨⟨w9, hb9⟩, rfl⟩ := hw'
            try dsimp only
            go_wp2
            go_ret
            exact ⟨ret_int HB.out.symm, HFIN.out _ hb9⟩
          have g3' : decide ((ixM p.min k).level < -2147483647) = false := by simp; omega
          by_cases g4 : 2147483647 < (ixM p.min k).level
          · have HB := HBAD.out (by rw [HMK.out, g1, g2]; simp; omega)
            go_wp2
            refine wp_region_ext (by kernel_rfl) (by kernel_rfl) ?_
            repeat (go_big_quiet_step ((first | (go_at_call 107; exact Calls.ext_of (ordered_any _ _ _ _ (HL.out _) (by omega))) | (go_at_call 108; exact Calls.ext_of_same (weights_any _ _ _ _ (HW2.out _))))))
            refine wpQuiet_nil ?_
            intro _ hw'
            obtain ⟨⟨w9, hb9⟩, rfl⟩ := hw'
            try dsimp only
            go_wp2
            go_ret
            exact ⟨ret_int HB.out.symm, HFIN.out _ hb9⟩
          have g4' : decide (2147483647 < (ixM p.min k).level) = false := by simp; omega
          have g34 : decide (-2147483647 ≤ (ixM p.min k).level ∧ (ixM p.min k).level ≤ 2147483647) = true := by simp; omega
          by_cases hk0 : k = 0
          · have hkp : decide (0 < k) = false := by simp; omega
            have HZ : Hid (minAt p.min p.n k = true) := Lib.hid (by rw [HMK.out, g1, g2, g34, hk0]; rfl)
            clear hk0 g34
            go_wp2
            refine wp_region_ext (by kernel_rfl) (by kernel_rfl) ?_
            repeat (go_big_quiet_step ((first | (go_at_call 107; exact Calls.ext_of (ordered_any _ _ _ _ (HL.out _) (by omega))) | (go_at_call 108; exact Calls.ext_of_same (weights_any _ _ _ _ (HW2.out _))))))
            refine wpQuiet_nil ?_
            intro _ hw'
            obtain ⟨⟨w9, hb9⟩, rfl⟩ := hw'
            try dsimp only
            go_wp2
            first
              | (go_roundw
                 case rel => (exact ⟨k + 1, by omega, by go_num, lt_succ_all HOK.out HZ.out, HFIN2.out _ hb9⟩)
                 case measure => (simp [intOf]; omega))
              | (refine ⟨?_, ?_⟩
                 · (exact ⟨k + 1, by omega, by go_num, lt_succ_all HOK.out HZ.out, HFIN2.out _ hb9⟩)
                 · (simp [intOf]; omega))
          have hkp : decide (0 < k) = true := by simp; omega
          have hkq : (0 : Int) < (k : Int) := by omega
          have hkn : (0 : Int) ≤ (k : Int) - 1 := by omega
          have hkm : ((k : Int) - 1).toNat = k - 1 := by omega
          have hkb : (k == 0) = false := by simp [hk0]
          by_cases g5 : (ixM p.min (k - 1)).level ≤ (ixM p.min k).level
          · have HB := HBAD.out (by rw [HMK.out, g1, g2, g34, hkb]; simp; omega)
            clear g34 hkb
            go_wp2
            refine wp_region_ext (by kernel_rfl) (by kernel_rfl) ?_
            repeat (go_big_quiet_step ((first | (go_at_call 107; exact Calls.ext_of (ordered_any _ _ _ _ (HL.out _) (by omega))) | (go_at_call 108; exact Calls.ext_of_same (weights_any _ _ _ _ (HW2.out _))))))
            refine wpQuiet_nil ?_
            intro _ hw'
            obtain ⟨⟨w9, hb9⟩, rfl⟩ := hw'
            try dsimp only
            go_wp2
            go_ret
            exact ⟨ret_int HB.out.symm, HFIN.out _ hb9⟩
          · have g5' : decide ((ixM p.min (k - 1)).level ≤ (ixM p.min k).level) = false := by simp; omega
            have HZ : Hid (minAt p.min p.n k = true) := Lib.hid (by rw [HMK.out, g1, g2, g34, hkb]; simp; omega)
            clear g34 hkb
            go_wp2
            refine wp_region_ext (by kernel_rfl) (by kernel_rfl) ?_
            repeat (go_big_quiet_step ((first | (go_at_call 107; exact Calls.ext_of (ordered_any _ _ _ _ (HL.out _) (by omega))) | (go_at_call 108; exact Calls.ext_of_same (weights_any _ _ _ _ (HW2.out _))))))
            refine wpQuiet_nil ?_
            intro _ hw'
            obtain ⟨⟨w9, hb9⟩, rfl⟩ := hw'
            try dsimp only
            go_wp2
            first
              | (go_roundw
                 case rel => (exact ⟨k + 1, by omega, by go_num, lt_succ_all HOK.out HZ.out, HFIN2.out _ hb9⟩)
                 case measure => (simp [intOf]; omega))
              | (refine ⟨?_, ?_⟩
                 · (exact ⟨k + 1, by omega, by go_num, lt_succ_all HOK.out HZ.out, HFIN2.out _ hb9⟩)
                 · (simp [intOf]; omega))
        · have HL2 : Hid (k = p.min.length) := Lib.hid (by omega)
          have HE : Hid (validE p = 0) := Lib.hid (by rw [HF.out, minsB, allR_true (by rw [← HL2.out]; exact HOK.out)]; simp [h3])
          go_wp2
          go_ret
          exact ⟨ret_int HE.out.symm, hbw⟩
def litKey (x : Int) : Int := if 0 ≤ x then 2 * x else -(2 * x) + 1
theorem ordI_key {x y : Int} (h : ordI x y < 0) : litKey x < litKey y := by
  unfold ordI orI cmpI at h
  unfold litKey
  grind
theorem ordered_lt {l : List Int} {n : Int} (h : orderedB l n = true) : ∀ j, j < l.length → ∀ i, i < j → litKey (ix l i) < litKey (ix l j) := by
  intro j
  induction j with
  | zero => intro _ i hi; omega
  | succ j ih =>
    intro hj i hi
    have h1 := allR_get h (j + 1) hj
    simp only [okAt, Bool.and_eq_true, Bool.or_eq_true, beq_iff_eq, decide_eq_true_eq, Nat.add_sub_cancel] at h1
    have h2 := ordI_key (h1.2.resolve_left (by omega))
    rcases Nat.lt_or_ge i j with h3 | h3
    · have := ih (by omega) i h3; omega
    · obtain rfl : i = j := by omega
      exact h2
theorem ordered_lit {l : List Int} {n : Int} (h : orderedB l n = true) {x : Int} (hx : x ∈ l) : x ≠ 0 ∧ -n ≤ x ∧ x ≤ n := by
  obtain ⟨i, hi, rfl⟩ := List.mem_iff_getElem.1 hx
  have h1 := allR_get h i hi
  simp only [okAt, litB, Bool.and_eq_true, decide_eq_true_eq] at h1
  have : ix l i = l[i] := by simp [ix, List.getD_eq_getElem?_getD, List.getElem?_eq_getElem hi]
  rw [this] at h1
  exact h1.1
theorem rulesFrom_zero {l : List GR} {n : Int} : ∀ m k, rulesFrom l n k m = 0 → ∀ i, k ≤ i → i < k + m → ruleE (ixR l i) n = 0
  | 0, k, _, i, h1, h2 => by omega
  | m + 1, k, h, i, h1, h2 => by
    unfold rulesFrom at h
    split at h
    · rename_i hne; exact absurd h hne
    · rename_i he
      by_cases hik : i = k
      · subst hik; exact Decidable.not_not.1 he
      · exact rulesFrom_zero m (k + 1) h i (by omega) (by omega)
structure ValidP (p : GP) : Prop where
  n : 0 ≤ p.n ∧ p.n ≤ 4000
  rules : p.rules.length ≤ 40000
  head : ∀ i, i < p.rules.length → increasingB (ixR p.rules i).head p.n = true
  body : ∀ i, i < p.rules.length → orderedB (ixR p.rules i).body p.n = true
  sum : ∀ i, i < p.rules.length → (ixR p.rules i).sum = true → weightsB (ixR p.rules i).w (ixR p.rules i).body.length = true
  bound : ∀ i, i < p.rules.length → 0 ≤ (ixR p.rules i).bound
theorem validP {p : GP} (h : validE p = 0) : ValidP p := by
  unfold validE at h
  split at h
  · omega
  rename_i h1
  split at h
  · omega
  rename_i h2
  split at h
  · rename_i h3; exact absurd h h3
  rename_i h3
  have h3 := Decidable.not_not.1 h3
  have hr := fun i (hi : i < p.rules.length) => rulesFrom_zero p.rules.length 0 h3 i (by omega) (by omega)
  simp only [namedB, Bool.not_eq_false, Bool.and_eq_true, decide_eq_true_eq] at h1
  refine ⟨by omega, by omega, fun i hi => ?_, fun i hi => ?_, fun i hi hs => ?_, fun i hi => ?_⟩ <;> have h4 := hr i hi <;> unfold ruleE at h4 <;> grind
def RowsAt (q : Int → Bool) (f : Nat → List Int) (k j : Nat) (R : Int → List Int) : Prop :=
  ∀ x, (R x).Pairwise (· < ·) ∧ ∀ i, i ∈ R x ↔ q x = true ∧ ((0 ≤ i ∧ i < k ∧ x ∈ f i.toNat) ∨ (i = k ∧ x ∈ (f k).take j))
section
variable {q : Int → Bool} {f : Nat → List Int} {k j : Nat} {R : Int → List Int}
theorem RowsAt.start : RowsAt q f 0 0 (fun _ => []) := fun x => ⟨List.Pairwise.nil, fun i => by simp; intros; omega⟩
theorem take_ix (l : List Int) (j : Nat) (hj : j < l.length) : l.take (j + 1) = l.take j ++ [ix l j] := by
  rw [List.take_add_one]; simp [ix, List.getElem?_eq_getElem hj]
theorem RowsAt.push (h : RowsAt q f k j R) (hj : j < (f k).length) (hq : q (ix (f k) j) = true) (hn : ix (f k) j ∉ (f k).take j) : RowsAt q f k (j + 1) (pushR R (ix (f k) j) k) := by
  intro y
  obtain ⟨h1, h2⟩ := h y
  unfold pushR
  rw [take_ix _ _ hj]
  split
  · rename_i e
    subst e
    refine ⟨List.pairwise_append.2 ⟨h1, by simp, fun a ha b hb => ?_⟩, fun i => ?_⟩
    · simp only [List.mem_singleton] at hb
      subst hb
      have := ((h2 a).1 ha).2
      rcases this with h3 | h3
      · exact h3.2.1
      · exact absurd h3.2 hn
    · simp only [List.mem_append, List.mem_singleton, h2]
      grind
  · rename_i e
    refine ⟨h1, fun i => ?_⟩
    simp only [List.mem_append, List.mem_singleton, h2, e, or_false]
theorem RowsAt.skip (h : RowsAt q f k j R) (hj : j < (f k).length) (hq : q (ix (f k) j) = false) : RowsAt q f k (j + 1) R := by
  intro y
  obtain ⟨h1, h2⟩ := h y
  rw [take_ix _ _ hj]
  refine ⟨h1, fun i => ?_⟩
  simp only [List.mem_append, List.mem_singleton, h2]
  constructor
  · grind
  · rintro ⟨h3, h4 | ⟨h4, h5 | rfl⟩⟩
    · exact ⟨h3, .inl h4⟩
    · exact ⟨h3, .inr ⟨h4, h5⟩⟩
    · rw [hq] at h3; cases h3
theorem RowsAt.next (h : RowsAt q f k (f k).length R) : RowsAt q f (k + 1) 0 R := by
  intro y
  obtain ⟨h1, h2⟩ := h y
  refine ⟨h1, fun i => ?_⟩
  rw [h2]
  simp only [List.take_length, List.take_zero, List.not_mem_nil, and_false, or_false]
  constructor
  · rintro ⟨h3, h4 | ⟨rfl, h4⟩⟩
    · exact ⟨h3, by omega, by push_cast; omega, h4.2.2⟩
    · exact ⟨h3, by omega, by push_cast; omega, by simpa using h4⟩
  · rintro ⟨h3, h4, h5, h6⟩
    refine ⟨h3, ?_⟩
    by_cases e : i = k
    · subst e; exact .inr ⟨rfl, by simpa using h6⟩
    · exact .inl ⟨h4, by push_cast at h5; omega, h6⟩
theorem lt_length : ∀ (l : List Int) (a b : Int), l.Pairwise (· < ·) → (∀ x ∈ l, a ≤ x ∧ x < b) → a ≤ b → (l.length : Int) ≤ b - a
  | [], a, b, _, _, h => by simp; omega
  | x :: l, a, b, h1, h2, h => by
    obtain ⟨h3, h4⟩ := List.pairwise_cons.1 h1
    have hx := h2 x (.head _)
    have := lt_length l (x + 1) b h4 (fun y hy => ⟨by have := h3 y hy; omega, (h2 y (.tail _ hy)).2⟩) (by omega)
    simp only [List.length_cons]
    push_cast
    omega
theorem RowsAt.len (h : RowsAt q f k j R) (x : Int) : (R x).length ≤ k + 1 := by
  have := lt_length (R x) 0 (k + 1) (h x).1 (fun i hi => by have := ((h x).2 i).1 hi; omega) (by omega)
  omega
end
def offB (a : List Int) (l : Int) : Bool := decide (l.natAbs ≤ a.length) && decide (ix a (l.natAbs - 1) ≠ 0) && (decide (0 < ix a (l.natAbs - 1)) != decide (0 < l))
def holdsB (a : List Int) (F K : Int → Int) (before l : Int) : Bool := !offB a l && (decide (l < 0) || (decide (0 < F l) && decide (K l < before)))
def avSum (r : GR) (a : List Int) (F K : Int → Int) (before : Int) : Nat → Int
  | 0 => 0
  | k + 1 => avSum r a F K before k + if holdsB a F K before (ix r.body k) then ix r.w k else 0
def availB (p : GP) (a : List Int) (F K : Int → Int) (i : Nat) (before : Int) : Bool :=
  !offB a (p.n + 1 + i) && (if (ixR p.rules i).sum then decide ((ixR p.rules i).bound ≤ avSum (ixR p.rules i) a F K before (ixR p.rules i).body.length) else allR (ixR p.rules i).body.length (fun k => holdsB a F K before (ix (ixR p.rules i).body k)))
theorem weights_sum {l : List Int} {n : Int} (h : weightsB l n = true) : (l.length : Int) = n ∧ (∀ k, k < l.length → 1 ≤ ix l k) ∧ ∀ k, k ≤ l.length → 0 ≤ sumTo l k ∧ sumTo l k ≤ 1048576 := by
  unfold weightsB at h
  simp only [Bool.and_eq_true, decide_eq_true_eq] at h
  refine ⟨h.2, fun k hk => by have := allR_get h.1 k hk; simp at this; omega, fun k => ?_⟩
  induction k with
  | zero => intro _; simp [sumTo]
  | succ k ih =>
    intro hk
    have h1 := allR_get h.1 k (by omega)
    simp only [decide_eq_true_eq] at h1
    have := ih (by omega)
    unfold sumTo; omega
theorem QRow.far {base : Nat} {l : List Int} {w : World} {v : Value} {b : Nat} {c : List Value} {T : TypeId} (h : QRow base w v l) (hb : Blk w b c T) (hT : T ≠ 3) : v.ownBlock ≠ some b := by
  intro e
  rcases h.2 with ⟨rfl, _⟩ | ⟨g, off, cap, cur, rfl, _, hg, _⟩
  · cases e
  · have : g = b := by simpa [Value.ownBlock] using e
    subst this
    unfold Blk at hb
    rw [hg] at hb
    have := Option.some.inj hb
    injection this with _ h2 _
    exact hT h2.symm
theorem QRow.form {base : Nat} {l : List Int} {w : World} {v : Value} (h : QRow base w v l) : ∃ a n c, v = .slice a n c := by
  rcases h.2 with ⟨rfl, _⟩ | ⟨g, off, cap, cur, rfl, _⟩
  · exact ⟨_, _, _, rfl⟩
  · exact ⟨_, _, _, rfl⟩
theorem QRow.ints {base : Nat} {w : World} {v : Value} {l : List Int} (h : QRow base w v l) (hl : l.length * 8 ≤ 140737488351232) : Ints w v l := by
  refine ⟨?_, h.1⟩
  rcases h.2 with ⟨rfl, rfl⟩ | ⟨g, off, cap, cur, rfl, hb, hg, h1, h2, h3, h4⟩
  · exact ⟨none, 0, rfl, Nat.le_refl _, by unfold maxLen; omega, by simp, fun h0 => absurd h0 (by simp)⟩
  · refine ⟨_, cap, rfl, h1, h2, hl, fun _ => ⟨g, off, rfl, (Array.getElem?_eq_some_iff.1 hg).1, fun i hi => ?_⟩⟩
    rw [cell_of_row w g (off + i) cur 3 (0, 0) hg]; exact h4 i hi
theorem QRow.below {base : Nat} {w w' : World} {v : Value} {l : List Int} (h : QRow base w v l) (hb : Below w.heap.size w w') : QRow base w' v l := h.kept fun i _ hi _ => hb.block i hi
theorem QRow.mono {base base' : Nat} {w : World} {v : Value} {l : List Int} (h : QRow base w v l) (hb : base' ≤ base) : QRow base' w v l :=
  ⟨h.1, h.2.imp id fun ⟨g, off, cap, cur, e, h1, r⟩ => ⟨g, off, cap, cur, e, by omega, r⟩⟩
theorem Ints.at {w : World} {ad : Option Addr} {n c : Nat} {l : List Int} (h : Ints w (.slice ad n c) l) {k : Nat} (hk : k < l.length) :
    ∃ b off, ad = some ⟨b, off, none⟩ ∧ b < w.heap.size ∧ w.cell? ⟨b, off + k, none⟩ = some (.int .i64 (ix l k)) := by
  obtain ⟨a2, c2, e, -, -, -, hc⟩ := h.form
  obtain ⟨b, off, e2, hl, hcc⟩ := hc (by omega)
  simp only [Value.slice.injEq] at e
  exact ⟨b, off, e.1.trans e2, hl, hcc k hk⟩
def IntsRel (l1 l2 : List Int) (w : World) (i : Value) (wx : World) : Prop := ∃ k : Nat, k ≤ l1.length ∧ i = .int .i64 k ∧ (∀ j, j < k → ix l1 j = ix l2 j) ∧ Below w.heap.size w wx
theorem eq_of_ix {l1 l2 : List Int} (hl : l1.length = l2.length) (h : ∀ j, j < l1.length → ix l1 j = ix l2 j) : l1 = l2 := by
  apply List.ext_getElem hl
  intro i h1 h2
  have := h i h1
  simpa [ix, List.getD_eq_getElem?_getD, List.getElem?_eq_getElem h1, List.getElem?_eq_getElem h2] using this
theorem Blk.ints {w : World} {b : Nat} {l : List Int} (h : Blk w b (l.map (Value.int .i64)) 3) (hf : ∀ i, InI (ix l i)) (hl : l.length * 8 ≤ 140737488351232) : Ints w (.slice (some ⟨b, 0, none⟩) l.length l.length) l := by
  refine ⟨⟨_, _, rfl, Nat.le_refl _, by unfold maxLen; omega, hl, fun _ => ⟨b, 0, rfl, h.lt, fun i hi => ?_⟩⟩, hf⟩
  rw [Nat.zero_add, h.cell]
  simp [ix, List.getD_eq_getElem?_getD, hi]
theorem nil_ints (w : World) : Ints w nilS [] := ⟨⟨none, 0, rfl, Nat.le_refl _, by unfold maxLen; omega, by simp, fun h => absurd h (by simp)⟩, fun i => by simp [ix]⟩
theorem flat6 : ∀ (L : List RQ) (i j : Nat), i < L.length → j < 6 → (L.flatMap cells6)[i * 6 + j]? = (cells6 (L.getD i default))[j]?
  | [], i, j, hi, _ => absurd hi (Nat.not_lt_zero _)
  | q :: L, 0, j, _, hj => by
    rw [List.flatMap_cons, List.getElem?_append_left (by simp [cells6]; omega)]
    simp
  | q :: L, i + 1, j, hi, hj => by
    rw [List.flatMap_cons, List.getElem?_append_right (by simp [cells6]; omega)]
    have : (i + 1) * 6 + j - (cells6 q).length = i * 6 + j := by simp [cells6]; omega
    rw [this, flat6 L i j (by simpa using hi) hj]
    simp
theorem ix_mem {l : List Int} {j : Nat} (hj : j < l.length) : ix l j ∈ l := by
  have e : ix l j = l[j] := by simp [ix, List.getD_eq_getElem?_getD, List.getElem?_eq_getElem hj]
  rw [e]; exact List.getElem_mem hj
def cntF (F : Int → Int) : Nat → Nat
  | 0 => 0
  | n + 1 => cntF F n + if 0 < F ((n : Int) + 1) then 1 else 0
theorem fitI {l : List Int} (h : ∀ x ∈ l, InI x) (i : Nat) : InI (ix l i) := by
  by_cases hi : i < l.length
  · exact h _ (ix_mem hi)
  · have : ix l i = 0 := by unfold ix; rw [List.getD_eq_getElem?_getD, List.getElem?_eq_none (by omega)]; rfl
    rw [this]; unfold InI; omega
theorem QRow.slen {base : Nat} {w : World} {v : Value} {l : List Int} (h : QRow base w v l) : ∃ a c, v = .slice a l.length c := by
  rcases h.2 with ⟨rfl, rfl⟩ | ⟨g, off, cap, cur, rfl, _⟩
  · exact ⟨_, _, rfl⟩
  · exact ⟨_, _, rfl⟩
theorem mapI_look {w : World} {b : Nat} {G : Int → Int} (h : MapIs (Value.int .i64) w b (mapI G)) (x : Int) :
    (Instr.lookup 115 (.map (some b)) (.int .i64 x) false).run Tryz.prog w = .ok (.int .i64 (G x)) w := by
  have := h.lookup kvInt Tryz.underlying115 Tryz.underlying3 (Tryz.zeroValue3 w) x
  rw [mapI_getD] at this
  exact this
theorem size_set (w : World) (a : Addr) (v : Value) : (w.setCell a v).heap.size = w.heap.size := by simp [World.setCell]
theorem Blk.newAt (w : World) (c : List Value) (t : TypeId) {b : Nat} (h : b = w.heap.size) : Blk (w.alloc (.cells c.toArray t)) b c t := h ▸ Blk.new w c t
def IxP (n : Nat) (g : Nat → Bool) (r : Int) : Prop := (r = -1 ∧ ∀ j, j < n → g j = false) ∨ ∃ k : Nat, k < n ∧ r = k ∧ g k = true ∧ ∀ j, j < k → g j = false
def IxR (n : Nat) (g : Nat → Bool) (w : World) (i : Value) (wx : World) : Prop := ∃ k : Nat, k ≤ n ∧ i = .int .i64 k ∧ (∀ j, j < k → g j = false) ∧ Below w.heap.size w wx
theorem IxP.any {n : Nat} {g : Nat → Bool} {r : Int} (h : IxP n g r) : decide (0 ≤ r) = anyR n g := by
  rcases h with ⟨rfl, h⟩ | ⟨k, h1, rfl, h2, h3⟩
  · rw [anyR_false h]; rfl
  · rw [anyR_true k h1 h2, decide_eq_true (by omega)]
theorem mem_ix {l : List Int} {x : Int} : x ∈ l ↔ ∃ k, k < l.length ∧ ix l k = x := by
  constructor
  · intro h
    obtain ⟨k, hk, e⟩ := List.mem_iff_getElem.1 h
    exact ⟨k, hk, by simp [ix, List.getD_eq_getElem?_getD, List.getElem?_eq_getElem hk, e]⟩
  · rintro ⟨k, hk, rfl⟩; exact ix_mem hk
set_option maxHeartbeats 1000000 in
theorem index_any (v : Value) (l : List Int) (x : Int) (w : World) (h : Ints w v l) :
    Calls Tryz.prog 96 #[v, .int .i64 x] w fun e w' => ∃ r, e = .returned (.int .i64 r) ∧ IxP l.length (fun j => decide (ix l j = x)) r ∧ w = w' := by
  obtain ⟨a1, c1, rfl, -, hl1, -, hcell⟩ := h.form
  clear h
  go_enter Tryz.func96, Tryz.ntmps96
  go_wp2
  go_loop [8] (fun i => ∃ k : Nat, k ≤ l.length ∧ i = .int .i64 k ∧ Hid (∀ j, j < k → decide (ix l j = x) = false)) (fun i => l.length - (intOf i).toNat)
  case atStart => exact ⟨0, by omega, rfl, Lib.hid (fun j hj => absurd hj (Nat.not_lt_zero _))⟩
  case round =>
    obtain ⟨k, hk, rfl, HA⟩ := hrel
    by_cases hlt : k < l.length
    · obtain ⟨b, off, rfl, hbl, hc⟩ := hcell (by omega)
      have hk1 := hc k hlt
      clear hc hcell
      by_cases g1 : ix l k = x
      · have HK : Hid (ix l k = x) := Lib.hid g1
        have g2 : (x == ix l k) = true := by simp [g1]
        clear g1
        go_wp2
        go_ret
        exact ⟨_, rfl, .inr ⟨k, hlt, rfl, decide_eq_true HK.out, HA.out⟩, rfl⟩
      · have HN := Lib.hid (lt_succ_all HA.out (decide_eq_false g1))
        have g2 : (x == ix l k) = false := by simp; exact fun e => g1 e.symm
        clear g1
        go_wp2
        first
          | (go_round
             case rel => (exact ⟨k + 1, by omega, by go_num, HN⟩)
             case measure => (simp [intOf]; omega))
          | (refine ⟨?_, ?_⟩
             · (exact ⟨k + 1, by omega, by go_num, HN⟩)
             · (simp [intOf]; omega))
    · have HN : Hid (∀ j, j < l.length → decide (ix l j = x) = false) := Lib.hid (fun j hj => HA.out j (by omega))
      go_wp2
      go_ret
      exact ⟨_, rfl, .inl ⟨rfl, HN.out⟩, rfl⟩
theorem anyR_mem (l : List Int) (x : Int) : anyR l.length (fun j => decide (ix l j = x)) = decide (x ∈ l) := by
  by_cases h : x ∈ l
  · obtain ⟨k, hk, e⟩ := mem_ix.1 h
    rw [decide_eq_true h, anyR_true k hk (decide_eq_true e)]
  · rw [decide_eq_false h, anyR_false (fun j hj => decide_eq_false (fun e => h (mem_ix.2 ⟨j, hj, e⟩)))]
theorem contains_any (v : Value) (l : List Int) (x : Int) (w : World) (h : Ints w v l) :
    Calls Tryz.prog 45 #[v, .int .i64 x] w fun e w' => e = .returned (.bool (decide (x ∈ l))) ∧ w = w' := by
  have HI := Lib.hid (index_any v l x w h)
  obtain ⟨a1, c1, rfl, -⟩ := h.form
  clear h
  go_enter Tryz.func45, Tryz.ntmps45
  go_wp2_with (go_at_call 96; refine (HI.out).mono ?_; rintro e w1 ⟨r, rfl, hr, rfl⟩; have HR := Lib.hid hr; clear hr)
  go_ret
  exact ⟨ret_bool (by rw [HR.out.any, anyR_mem]), rfl⟩
def setTo (n : Int) (S : List Int) (k : Nat) : Bool := decide (1 ≤ ix S k ∧ ix S k ≤ n) && (k == 0 || decide (ix S (k - 1) < ix S k))
theorem run_makeMapI {P : Program} {t kt et : TypeId} (ht : P.underlying t = some (.map kt et)) (n : Int) (w : World) : (Instr.makeMap t (some (.int .i64 n))).run P w = .ok (.map (some w.heap.size)) (w.alloc (.map #[] 0)) := by
  simp [Instr.makeMap, run_underlying ht, Result.andThen, asInt, asIntOf]
def MemSt (W4 : World) (bm : Nat) (U : List Int) (k : Nat) (wx : World) : Prop :=
  ∃ G, MapIs (Value.int .i64) wx bm (mapI G) ∧ (∀ y, 0 ≤ G y ∧ G y ≤ k ∧ (0 < G y ↔ y ∈ U.take k)) ∧ Below W4.heap.size W4 wx
def MemRel (W4 : World) (bm : Nat) (U : List Int) (i : Value) (wx : World) : Prop := ∃ k : Nat, k ≤ U.length ∧ i = .int .i64 k ∧ MemSt W4 bm U k wx
theorem take_ixM (U : List Int) (k : Nat) (hk : k < U.length) : U.take (k + 1) = U.take k ++ [ix U k] := by
  rw [List.take_succ_eq_append_getElem hk]
  simp [ix, List.getD_eq_getElem?_getD, List.getElem?_eq_getElem hk]
theorem MemSt.start (W4 : World) (U : List Int) : MemSt W4 W4.heap.size U 0 (W4.alloc (.map #[] 0)) := by
  refine ⟨fun _ => 0, ?_, fun y => by simp, bal (Below.refl _ _) _⟩
  have : mapI (fun _ => 0) = fun _ => none := by funext x; simp [mapI]
  rw [this]; exact MapIs.made W4
theorem MemSt.put {W4 wx w7 : World} {U : List Int} {k : Nat} {G : Int → Int} (hG : ∀ y, 0 ≤ G y ∧ G y ≤ k ∧ (0 < G y ↔ y ∈ U.take k)) (hb : Below W4.heap.size W4 wx) (hk : k < U.length)
    (hm : MapIs (Value.int .i64) w7 W4.heap.size (upd (mapI G) (ix U k) (some (.int .i64 (G (ix U k) + 1))))) (hg : wx.grownBy w7 (some W4.heap.size)) : MemSt W4 W4.heap.size U (k + 1) w7 := by
  have hx := hG (ix U k)
  have hsz := hb.size
  refine ⟨setI G (ix U k) (G (ix U k) + 1), by rw [mapI_set (by omega)]; exact hm, fun y => ?_, hb.trans ⟨hg.os, hg.tape, hg.output, hg.size, fun i hi => hg.block i (by omega) (fun e => by have := Option.some.inj e; omega)⟩⟩
  rw [take_ixM U k hk, List.mem_append, List.mem_singleton]
  by_cases e : y = ix U k
  · subst e
    have e2 : setI G (ix U k) (G (ix U k) + 1) (ix U k) = G (ix U k) + 1 := by simp [setI]
    rw [e2]
    exact ⟨by omega, by omega, ⟨fun _ => .inr rfl, fun _ => by omega⟩⟩
  · have e2 : setI G (ix U k) (G (ix U k) + 1) y = G y := by simp [setI, e]
    rw [e2]
    have := hG y
    exact ⟨this.1, by omega, ⟨fun h => .inl (this.2.2.1 h), fun h => this.2.2.2 (h.resolve_right e)⟩⟩
def InM (w : World) (mb : Nat) (m : List Int) : Prop :=
  ∃ b G, Blk w mb [.map (some b)] 115 ∧ MapIs (Value.int .i64) w b (mapI G) ∧ ∀ y, 0 < G y ↔ y ∈ m
theorem InM.below {w w' : World} {mb : Nat} {m : List Int} (h : InM w mb m) (hb : Below w.heap.size w w') : InM w' mb m :=
  let ⟨b, G, h1, h2, h3⟩ := h; ⟨b, G, h1.below hb, h2.below hb, h3⟩
theorem InM.lt {w : World} {mb : Nat} {m : List Int} (h : InM w mb m) : mb < w.heap.size := let ⟨_, _, h1, _⟩ := h; h1.lt
def MbRel (W : World) (m : List Int) (i : Value) (wx : World) : Prop := MemRel W W.heap.size m i wx ∧ Blk wx (W.heap.size + 1) [.map (some W.heap.size)] 115
set_option maxHeartbeats 1000000 in
theorem member_any (v : Value) (m : List Int) (w : World) (h : Ints w v m) (hlen : m.length ≤ 1000000000) :
    Calls Tryz.prog 79 #[v] w fun e w' => ∃ mb, e = .returned (.func (.func 121) #[] #[.pointer (some ⟨mb, 0, none⟩)]) ∧ InM w' mb m ∧ Below w.heap.size w w' := by
  obtain ⟨a1, c1, rfl, -, hl1, -, hcell⟩ := h.form
  clear h
  have hmm := fun n w => run_makeMapI Tryz.underlying115 n w
  go_enter Tryz.func79, Tryz.ntmps79
  go_wp2
  go_loopw [11] (fun i wx => MbRel w m i wx) (fun i _ => m.length - (intOf i).toNat)
  case atStart => exact ⟨⟨0, Nat.zero_le _, rfl, (let ⟨G, h1, h2, h3⟩ := MemSt.start w m; ⟨G, h1.alloc _, h2, bal h3 _⟩)⟩, Blk.newAt _ _ _ (by simp)⟩
  case round =>
    obtain ⟨⟨k, hk, rfl, hst⟩, hbk⟩ := hrel
    obtain ⟨G, hmap, hG, hbl⟩ := hst
    have HBL := Lib.hid hbl
    have HMAP := Lib.hid hmap
    have HG := Lib.hid hG
    have HBK := Lib.hid hbk
    have kb := hbk.cell 0
    by_cases hlt : k < m.length
    · obtain ⟨b, off, rfl, hbl2, hc⟩ := hcell (by omega)
      have hcx : wr.cell? ⟨b, off + k, none⟩ = some (.int .i64 (ix m k)) := (bcell hbl _ _ hbl2).trans (hc k hlt)
      have hlk := mapI_look hmap (ix m k)
      have hGk := hG (ix m k)
      have hGb : 0 ≤ G (ix m k) ∧ G (ix m k) ≤ 1000000000 := by omega
      clear hc hcell hmap hG hbl hGk hbk hmm
      go_wp2_with (at_mapUpdate; refine wpList_mput _ _ (ix m k) (.int .i64 (G (ix m k) + 1)) kvInt 115 3 3 Tryz.underlying115 Tryz.underlying3 rfl _ _ _ rfl rfl rfl rfl HMAP.out ?_; intro w7 hm7 hg7 hs7; have HS7 := Lib.hid (MemSt.put HG.out HBL.out hlt hm7 hg7); have HB7 := Lib.hid (HBK.out.same (hg7.block _ HBK.out.lt (by intro e; have := Option.some.inj e; omega))); clear hm7 hg7 hs7)
      first
        | (go_roundw
           case rel => (exact ⟨⟨k + 1, hlt, by go_num, HS7.out⟩, HB7.out⟩)
           case measure => (simp [intOf]; omega))
        | (refine ⟨?_, ?_⟩
           · (exact ⟨⟨k + 1, hlt, by go_num, HS7.out⟩, HB7.out⟩)
           · (simp [intOf]; omega))
    · obtain rfl : k = m.length := by omega
      have HIN : Hid (InM wr (w.heap.size + 1) m) := Lib.hid ⟨_, G, hbk, hmap, fun y => by have := (hG y).2.2; rwa [List.take_length] at this⟩
      clear hmap hG hbk hmm
      go_wp2
      go_ret
      exact ⟨_, rfl, HIN.out, HBL.out⟩
theorem memb1_any (x : Int) (m : List Int) (mb : Nat) (w : World) (h : InM w mb m) :
    Calls Tryz.prog 121 #[.int .i64 x, .pointer (some ⟨mb, 0, none⟩)] w fun e w' => e = .returned (.bool (decide (x ∈ m))) ∧ w = w' := by
  obtain ⟨b, G, hb, hm, hG⟩ := h
  have hlk := mapI_look hm x
  have kb := hb.cell 0
  have HF : Hid (decide (0 < G x) = decide (x ∈ m)) := Lib.hid (decide_eq_decide.2 (hG x))
  clear hm hG hb
  go_enter Tryz.func121, Tryz.ntmps121
  go_wp2
  go_ret
  exact ⟨ret_bool HF.out, rfl⟩
def litT (m : List Int) (l : Int) : Bool := if 0 < l then decide (l ∈ m) else !decide (-l ∈ m)
theorem holdsL_any (x : Int) (m : List Int) (mb : Nat) (w : World) (h : InM w mb m) (hx : -9223372036854775808 < x ∧ x ≤ 9223372036854775807) :
    Calls Tryz.prog 120 #[.int .i64 x, .func (.func 121) #[] #[.pointer (some ⟨mb, 0, none⟩)]] w fun e w' => e = .returned (.bool (litT m x)) ∧ w = w' := by
  have H := Lib.hid h
  clear h
  by_cases hp : 0 < x
  · have HF : Hid (litT m x = decide (x ∈ m)) := Lib.hid (if_pos hp)
    go_enter Tryz.func120, Tryz.ntmps120
    go_wp2_with (go_at_call 121; (with_reducible refine (memb1_any _ m _ _ H.out).mono ?_); rintro e w1 ⟨rfl, rfl⟩)
    go_ret
    exact ⟨ret_bool HF.out.symm, rfl⟩
  · have HF : Hid (litT m x = !decide (-x ∈ m)) := Lib.hid (if_neg hp)
    go_enter Tryz.func120, Tryz.ntmps120
    go_wp2_with (go_at_call 121; (with_reducible refine (memb1_any _ m _ _ H.out).mono ?_); rintro e w1 ⟨rfl, rfl⟩)
    go_ret
    exact ⟨ret_bool HF.out.symm, rfl⟩
def wOf (r : GR) (k : Nat) : Int := if r.sum then ix r.w k else 1
def need0 (r : GR) : Int := if r.sum then r.bound else r.body.length
def lhsTo (C : List Int) (r : GR) : Nat → Int
  | 0 => 0
  | k + 1 => lhsTo C r k + if ix r.body k ∈ C then wOf r k else 0
def lhs (C : List Int) (r : GR) : Int := lhsTo C r r.body.length
def occTo (a : Int) (r : GR) : Nat → Int
  | 0 => 0
  | k + 1 => occTo a r k + if ix r.body k = a then wOf r k else 0
def stepU (U : Int → List (Int × Int)) (r : GR) (i : Nat) : Nat → Int → List (Int × Int)
  | 0 => U
  | k + 1 => fun a => if a = ix r.body k then stepU U r i k a ++ [((i : Int), wOf r k)] else stepU U r i k a
def usesU (R : List GR) : Nat → Int → List (Int × Int)
  | 0 => fun _ => []
  | i + 1 => stepU (usesU R i) (ixR R i) i (ixR R i).body.length
def sumAt (i : Int) : List (Int × Int) → Int
  | [] => 0
  | u :: l => (if u.1 = i then u.2 else 0) + sumAt i l
theorem sumAt_append (i : Int) : ∀ l m : List (Int × Int), sumAt i (l ++ m) = sumAt i l + sumAt i m
  | [], m => by simp [sumAt]
  | u :: l, m => by simp only [List.cons_append, sumAt]; rw [sumAt_append i l m]; omega
theorem stepU_sum (U : Int → List (Int × Int)) (r : GR) (i' : Nat) (i a : Int) : ∀ k, sumAt i (stepU U r i' k a) = sumAt i (U a) + if (i' : Int) = i then occTo a r k else 0
  | 0 => by simp [stepU, occTo]
  | k + 1 => by
    have ih := stepU_sum U r i' i a k
    unfold stepU occTo
    by_cases h : a = ix r.body k
    · rw [if_pos h, sumAt_append, ih]
      simp only [sumAt]
      rw [if_pos h.symm]
      split <;> omega
    · rw [if_neg h, ih, if_neg (show ¬ ix r.body k = a from fun e => h e.symm), Int.add_zero]
theorem usesU_sum (R : List GR) (i : Nat) (a : Int) : ∀ m, sumAt i (usesU R m a) = if i < m then occTo a (ixR R i) (ixR R i).body.length else 0
  | 0 => by simp [usesU, sumAt]
  | m + 1 => by
    unfold usesU
    rw [stepU_sum, usesU_sum R i a m]
    by_cases h : m = i
    · subst h; simp
    · rw [if_neg (show ¬ (m : Int) = i by omega)]
      by_cases h2 : i < m
      · rw [if_pos h2, if_pos (by omega)]; omega
      · rw [if_neg h2, if_neg (by omega)]; omega
theorem stepU_mem {U : Int → List (Int × Int)} {r : GR} {i : Nat} {a : Int} {u : Int × Int} : ∀ k, u ∈ stepU U r i k a ↔ u ∈ U a ∨ ∃ j, j < k ∧ ix r.body j = a ∧ u = ((i : Int), wOf r j)
  | 0 => by simp [stepU]
  | k + 1 => by
    have ih := stepU_mem (U := U) (r := r) (i := i) (a := a) (u := u) k
    unfold stepU
    constructor
    · intro h
      split at h
      · rename_i e
        rcases List.mem_append.1 h with h | h
        · rcases ih.1 h with h | ⟨j, h1, h2⟩
          · exact .inl h
          · exact .inr ⟨j, by omega, h2⟩
        · exact .inr ⟨k, by omega, e.symm, by simpa using h⟩
      · rcases ih.1 h with h | ⟨j, h1, h2⟩
        · exact .inl h
        · exact .inr ⟨j, by omega, h2⟩
    · intro h
      have h' : u ∈ stepU U r i k a ∨ (a = ix r.body k ∧ u = ((i : Int), wOf r k)) := by
        rcases h with h | ⟨j, h1, h2, h3⟩
        · exact .inl (ih.2 (.inl h))
        · by_cases hj : j = k
          · subst hj; exact .inr ⟨h2.symm, h3⟩
          · exact .inl (ih.2 (.inr ⟨j, by omega, h2, h3⟩))
      split
      · rename_i e
        rcases h' with h' | ⟨_, h'⟩
        · exact List.mem_append_left _ h'
        · exact List.mem_append_right _ (by simp [h'])
      · rename_i e
        rcases h' with h' | ⟨h', _⟩
        · exact h'
        · exact absurd h' e
theorem usesU_mem {R : List GR} {a : Int} {u : Int × Int} : ∀ m, u ∈ usesU R m a ↔ ∃ i j : Nat, i < m ∧ j < (ixR R i).body.length ∧ ix (ixR R i).body j = a ∧ u = ((i : Int), wOf (ixR R i) j)
  | 0 => by simp [usesU]
  | m + 1 => by
    unfold usesU
    rw [stepU_mem, usesU_mem m]
    constructor
    · rintro (⟨i, j, h1, h2⟩ | ⟨j, h1, h2⟩)
      · exact ⟨i, j, by omega, h2⟩
      · exact ⟨m, j, by omega, h1, h2⟩
    · rintro ⟨i, j, h1, h2⟩
      by_cases e : i = m
      · subst e; exact .inr ⟨j, h2⟩
      · exact .inl ⟨i, j, by omega, h2⟩
theorem lhsTo_push {C : List Int} {a : Int} (h : a ∉ C) (r : GR) : ∀ k, lhsTo (C ++ [a]) r k = lhsTo C r k + occTo a r k
  | 0 => by simp [lhsTo, occTo]
  | k + 1 => by
    unfold lhsTo occTo
    rw [lhsTo_push h r k]
    by_cases e : ix r.body k = a
    · rw [if_pos e, if_pos (by simp [e]), if_neg (by rw [e]; exact h)]; omega
    · rw [if_neg e]
      by_cases e2 : ix r.body k ∈ C
      · rw [if_pos e2, if_pos (by simp [e2])]; omega
      · rw [if_neg e2, if_neg (by simp [e, e2])]; omega
structure DefR (n : Int) (R : List GR) : Prop where
  rng : 0 ≤ n ∧ n ≤ 4000
  len : R.length ≤ 40000
  head : ∀ i, i < R.length → (ixR R i).head.length ≤ 1 ∧ ∀ x ∈ (ixR R i).head, 1 ≤ x ∧ x ≤ n
  body : ∀ i, i < R.length → (∀ k, k < (ixR R i).body.length → 1 ≤ ix (ixR R i).body k ∧ ix (ixR R i).body k ≤ n) ∧ (ixR R i).body.length ≤ 8002
  wts : ∀ i, i < R.length → (ixR R i).sum = true → (ixR R i).w.length = (ixR R i).body.length ∧ ∀ k, k < (ixR R i).w.length → 1 ≤ ix (ixR R i).w k ∧ ix (ixR R i).w k ≤ 1048576 - sumTo (ixR R i).w k
  bound : ∀ i, i < R.length → (ixR R i).sum = true → 0 ≤ (ixR R i).bound ∧ (ixR R i).bound ≤ 1048576
section
variable {n : Int} {R : List GR}
theorem DefR.w1 (h : DefR n R) {i : Nat} (hi : i < R.length) {k : Nat} (hk : k < (ixR R i).body.length) : 1 ≤ wOf (ixR R i) k ∧ wOf (ixR R i) k ≤ 1048576 ∧ ((ixR R i).sum = true → k < (ixR R i).w.length) := by
  unfold wOf
  cases hs : (ixR R i).sum with
  | false => simp
  | true =>
    obtain ⟨h1, h2⟩ := h.wts i hi hs
    have h3 := h2 k (by omega)
    have : ∀ m, m ≤ (ixR R i).w.length → 0 ≤ sumTo (ixR R i).w m := fun m => by
      induction m with
      | zero => intro _; simp [sumTo]
      | succ m ih => intro hm; have := ih (by omega); have := h2 m (by omega); unfold sumTo; omega
    have := this k (by omega)
    simp only [if_true]
    exact ⟨h3.1, by omega, fun _ => by omega⟩
theorem DefR.lhs_le (h : DefR n R) {i : Nat} (hi : i < R.length) (C : List Int) : ∀ k, k ≤ (ixR R i).body.length → 0 ≤ lhsTo C (ixR R i) k ∧ lhsTo C (ixR R i) k ≤ (if (ixR R i).sum then sumTo (ixR R i).w k else k)
  | 0, _ => by simp [lhsTo, sumTo]
  | k + 1, hk => by
    have ih := DefR.lhs_le h hi C k (by omega)
    have hw := (h.w1 hi (show k < _ by omega)).1
    unfold lhsTo
    have hle : wOf (ixR R i) k = if (ixR R i).sum then ix (ixR R i).w k else 1 := rfl
    cases hs : (ixR R i).sum with
    | false =>
      rw [hs] at ih hle
      simp only [if_false, Bool.false_eq_true] at ih hle ⊢
      split <;> push_cast <;> omega
    | true =>
      rw [hs] at ih hle
      simp only [if_true] at ih hle ⊢
      unfold sumTo
      split <;> omega
theorem DefR.sum_le (h : DefR n R) {i : Nat} (hi : i < R.length) (hs : (ixR R i).sum = true) : ∀ k, k ≤ (ixR R i).w.length → sumTo (ixR R i).w k ≤ 1048576
  | 0, _ => by simp [sumTo]
  | k + 1, hk => by have := (h.wts i hi hs).2 k (by omega); unfold sumTo; omega
theorem DefR.need (h : DefR n R) {i : Nat} (hi : i < R.length) (C : List Int) {k : Nat} (hk : k ≤ (ixR R i).body.length) : -1048576 ≤ need0 (ixR R i) - lhsTo C (ixR R i) k ∧ need0 (ixR R i) - lhsTo C (ixR R i) k ≤ 1048576 := by
  have h1 := h.lhs_le hi C k hk
  have hb := (h.body i hi).2
  unfold need0
  cases hs : (ixR R i).sum with
  | false =>
    rw [hs] at h1
    simp only [if_false, Bool.false_eq_true] at h1 ⊢
    omega
  | true =>
    rw [hs] at h1
    have h2 := h.sum_le hi hs k (by have := (h.wts i hi hs).1; omega)
    have h3 := h.bound i hi hs
    simp only [if_true] at h1 ⊢
    omega
theorem lhsTo_mono (h : DefR n R) {i : Nat} (hi : i < R.length) {C C' : List Int} (hc : ∀ x ∈ C, x ∈ C') : ∀ k, k ≤ (ixR R i).body.length → lhsTo C (ixR R i) k ≤ lhsTo C' (ixR R i) k
  | 0, _ => by simp [lhsTo]
  | k + 1, hk => by
    have ih := lhsTo_mono h hi hc k (by omega)
    have hw := (h.w1 hi (show k < _ by omega)).1
    unfold lhsTo
    by_cases h1 : ix (ixR R i).body k ∈ C
    · rw [if_pos h1, if_pos (hc _ h1)]; omega
    · rw [if_neg h1]; split <;> omega
theorem lhsTo_congr {C C' : List Int} (hc : ∀ x, x ∈ C ↔ x ∈ C') (r : GR) : ∀ k, lhsTo C r k = lhsTo C' r k
  | 0 => rfl
  | k + 1 => by unfold lhsTo; rw [lhsTo_congr hc r k]; simp only [hc]
def ClosedD (R : List GR) (T : List Int) : Prop := ∀ i, i < R.length → need0 (ixR R i) ≤ lhs T (ixR R i) → ∀ x ∈ (ixR R i).head, x ∈ T
def Der (R : List GR) (x : Int) : Prop := ∀ T, ClosedD R T → x ∈ T
structure IsLeast (R : List GR) (M : List Int) : Prop where
  closed : ClosedD R M
  least : ∀ x ∈ M, Der R x
theorem der_of (h : DefR n R) {C : List Int} (hC : ∀ x ∈ C, Der R x) {i : Nat} (hi : i < R.length) (hn : need0 (ixR R i) ≤ lhs C (ixR R i)) {x : Int} (hx : x ∈ (ixR R i).head) : Der R x := fun T hT =>
  hT i hi (Int.le_trans hn (lhsTo_mono h hi (fun y hy => hC y hy T hT) _ (Nat.le_refl _))) x hx
structure Lv (n : Int) (R : List GR) (C l od nd : List Int) : Prop where
  nodup : (C ++ l).Nodup
  range : ∀ x ∈ C ++ l, 1 ≤ x ∧ x ≤ n
  olen : (od.length : Int) = n
  nlen : nd.length = R.length
  out : ∀ x : Int, 1 ≤ x → x ≤ n → (0 < ix od (x - 1).toNat ↔ x ∈ C ++ l) ∧ 0 ≤ ix od (x - 1).toNat ∧ ix od (x - 1).toNat ≤ 4000000
  der : ∀ x ∈ C ++ l, Der R x
def Asked (R : List GR) (A nd : List Int) (Todo : Nat → Prop) : Prop := ∀ i, i < R.length → ix nd i ≤ 0 → (∀ x ∈ (ixR R i).head, x ∈ A) ∨ Todo i
def Paid (R : List GR) (C nd : List Int) : Prop := ∀ i, i < R.length → ix nd i = need0 (ixR R i) - lhs C (ixR R i)
theorem ix_set (l : List Int) (i j : Nat) (v : Int) (hi : i < l.length) : ix (l.set i v) j = if j = i then v else ix l j := by
  unfold ix
  simp only [List.getD_eq_getElem?_getD]
  by_cases h : j = i
  · subst h; rw [if_pos rfl, List.getElem?_set_self hi]; rfl
  · rw [if_neg h, List.getElem?_set_ne (by omega)]
theorem Lv.take {C l od nd : List Int} (hd : DefR n R) (h : Lv n R C l od nd) (hp : Paid R C nd) {i : Nat} (hi : i < R.length) (h0 : ix nd i ≤ 0) {x : Int} (hx : (ixR R i).head = [x]) (ho : ix od (x - 1).toNat = 0) {round : Int} (hr : 1 ≤ round ∧ round ≤ 4000000) :
    Lv n R C (l ++ [x]) (od.set (x - 1).toNat round) nd := by
  have hxr := (hd.head i hi).2 x (by rw [hx]; simp)
  have hxn : x ∉ C ++ l := fun hm => by have := (h.out x hxr.1 hxr.2).1.2 hm; omega
  have hol := h.olen
  have hlt : (x - 1).toNat < od.length := by omega
  refine ⟨by rw [← List.append_assoc]; exact List.nodup_append.2 ⟨h.nodup, by simp, fun a ha b hb => by simp only [List.mem_singleton] at hb; subst hb; rintro rfl; exact hxn ha⟩, fun y hy => ?_, by simpa using hol, h.nlen, fun y h1 h2 => ?_, fun y hy => ?_⟩
  · rw [← List.append_assoc] at hy
    rcases List.mem_append.1 hy with hy | hy
    · exact h.range y hy
    · simp only [List.mem_singleton] at hy; subst hy; exact hxr
  · rw [ix_set _ _ _ _ hlt, ← List.append_assoc]
    by_cases e : y = x
    · subst e; rw [if_pos rfl]; simp; omega
    · rw [if_neg (by omega)]
      have h3 := h.out y h1 h2
      refine ⟨h3.1.trans ?_, h3.2⟩
      simp [e]
  · rw [← List.append_assoc] at hy
    rcases List.mem_append.1 hy with hy | hy
    · exact h.der y hy
    · simp only [List.mem_singleton] at hy; subst hy
      exact der_of hd (fun z hz => h.der z (List.mem_append_left _ hz)) hi (by have := hp i hi; omega) (by rw [hx]; simp)
theorem sumAt_nonneg (i : Int) : ∀ l : List (Int × Int), (∀ u ∈ l, 0 ≤ u.2) → 0 ≤ sumAt i l
  | [], _ => by simp [sumAt]
  | u :: l, h => by
    have h1 := sumAt_nonneg i l (fun v hv => h v (by simp [hv]))
    have h2 := h u (by simp)
    unfold sumAt
    split <;> omega
theorem sumAt_take_le (i : Int) (l : List (Int × Int)) (h : ∀ u ∈ l, 0 ≤ u.2) (q : Nat) : 0 ≤ sumAt i (l.take q) ∧ sumAt i (l.take q) ≤ sumAt i l := by
  have h1 := sumAt_nonneg i (l.take q) (fun u hu => h u (List.mem_of_mem_take hu))
  have h2 := sumAt_nonneg i (l.drop q) (fun u hu => h u (List.mem_of_mem_drop hu))
  have h3 := sumAt_append i (l.take q) (l.drop q)
  rw [List.take_append_drop] at h3
  omega
def Todo (R : List GR) (L : List Int) (j : Nat) (i : Nat) : Prop := ∃ j', j ≤ j' ∧ j' < L.length ∧ ∃ u ∈ usesU R R.length (ix L j'), u.1 = (i : Int)
def Todo2 (R : List GR) (L : List Int) (j q : Nat) (i : Nat) : Prop := (∃ q', q ≤ q' ∧ q' < (usesU R R.length (ix L j)).length ∧ ((usesU R R.length (ix L j)).getD q' (0, 0)).1 = (i : Int)) ∨ Todo R L (j + 1) i
theorem Todo.open {L : List Int} {j i : Nat} (h : Todo R L j i) : Todo2 R L j 0 i := by
  obtain ⟨j', h1, h2, u, hu, e⟩ := h
  by_cases hj : j' = j
  · subst hj
    obtain ⟨q, hq, e2⟩ := List.mem_iff_getElem.1 hu
    exact .inl ⟨q, by omega, hq, by rw [List.getD_eq_getElem?_getD, List.getElem?_eq_getElem hq]; simp [e2, e]⟩
  · exact .inr ⟨j', by omega, h2, u, hu, e⟩
theorem Todo.none {L : List Int} {i : Nat} (h : Todo R L L.length i) : False := by
  obtain ⟨j, h1, h2, _⟩ := h
  omega
def posL (od : List Int) : Nat → List Int
  | 0 => []
  | k + 1 => if 0 < ix od k then posL od k ++ [(k : Int) + 1] else posL od k
theorem posL_mem (od : List Int) (x : Int) : ∀ k, x ∈ posL od k ↔ 1 ≤ x ∧ x ≤ k ∧ 0 < ix od (x - 1).toNat
  | 0 => by simp [posL]; omega
  | k + 1 => by
    have ih := posL_mem od x k
    unfold posL
    split
    · rename_i h
      simp only [List.mem_append, List.mem_singleton, ih]
      constructor
      · rintro (h1 | h1)
        · exact ⟨h1.1, by omega, h1.2.2⟩
        · refine ⟨by omega, by omega, ?_⟩
          have : (x - 1).toNat = k := by omega
          rw [this]; exact h
      · rintro ⟨h1, h2, h3⟩
        by_cases e : x = (k : Int) + 1
        · exact .inr e
        · exact .inl ⟨h1, by omega, h3⟩
    · rename_i h
      rw [ih]
      constructor
      · rintro ⟨h1, h2, h3⟩; exact ⟨h1, by omega, h3⟩
      · rintro ⟨h1, h2, h3⟩
        refine ⟨h1, ?_, h3⟩
        by_cases e : x = (k : Int) + 1
        · have : (x - 1).toNat = k := by omega
          rw [this] at h3; exact absurd h3 h
        · omega
theorem Lv.done {C od nd : List Int} (h : Lv n R C [] od nd) (hp : Paid R C nd) (ha : Asked R C nd (fun _ => False)) : IsLeast R (posL od n.toNat) := by
  have hC : ∀ x, x ∈ posL od n.toNat ↔ x ∈ C := fun x => by
    rw [posL_mem]
    constructor
    · rintro ⟨h1, h2, h3⟩
      have := ((h.out x h1 (by omega)).1).1 h3
      simpa using this
    · intro hx
      have hr := h.range x (by simpa using hx)
      exact ⟨hr.1, by omega, ((h.out x hr.1 hr.2).1).2 (by simpa using hx)⟩
  refine ⟨fun i hi hn x hx => ?_, fun x hx => h.der x (by simpa using (hC x).1 hx)⟩
  have e : lhs (posL od n.toNat) (ixR R i) = lhs C (ixR R i) := lhsTo_congr hC _ _
  rcases ha i hi (by have := hp i hi; omega) with h1 | h1
  · exact (hC x).2 (h1 x hx)
  · exact h1.elim
end
theorem made_list (z : Value) (n : Nat) : madeCells #[z] n = (List.replicate n z).toArray := by
  apply Array.ext
  · simp [size_madeCells]
  · intro i h1 h2
    simp [madeCells, Nat.mod_one]
end Go.Proofs.YtgakoainjgjimaaGreatDoor
