/- My texts Gp5, Plain1, Body, Off, QRow, App, SrcSt, merged. -/
import Derived.Test.YtfhpfbakoiekpaaGreatDoorM03
import Derived.Test.YtfhpfbakoiekpaaGreatDoorM00
import Derived.Deep.AppendSrc

/- The contract of gprog.Valid. -/
namespace Go.Proofs.YtfhpfbakoiekpaaGreatDoor
open Go.RowKit

/-- The first error of the rules from place k on. -/
def rulesFrom (l : List GR) (n : Int) : Nat → Nat → Int
  | _, 0 => 0
  | k, m + 1 => if ruleE (ixR l k) n ≠ 0 then ruleE (ixR l k) n else rulesFrom l n (k + 1) m
def rulesE (l : List GR) (n : Int) : Int := rulesFrom l n 0 l.length

def minAt (l : List GM) (n : Int) (i : Nat) : Bool :=
  orderedB (ixM l i).lits n && weightsB (ixM l i).w (ixM l i).lits.length && decide (-2147483647 ≤ (ixM l i).level ∧ (ixM l i).level ≤ 2147483647) && (i == 0 || decide ((ixM l i).level < (ixM l (i - 1)).level))
def minsB (l : List GM) (n : Int) : Bool := allR l.length (minAt l n)

def validE (p : GP) : Int :=
  if namedB p = false then 170 else if 40000 < p.rules.length then 171 else if rulesE p.rules p.n ≠ 0 then rulesE p.rules p.n else if 8 < p.min.length then 175 else if minsB p.min p.n = false then 175 else 0

def ValidPost (p : GP) (w : World) (e : Ending) (w' : World) : Prop := e = .returned (.int .i64 (validE p)) ∧ Below w.heap.size w w'

theorem rulesFrom_split (l : List GR) (n : Int) : ∀ (k : Nat), k ≤ l.length → (∀ j, j < k → ruleE (ixR l j) n = 0) → rulesE l n = rulesFrom l n k (l.length - k)
  | 0, _, _ => rfl
  | k + 1, hk, h => by
    rw [rulesFrom_split l n k (by omega) (fun j hj => h j (by omega))]
    have e : l.length - k = (l.length - (k + 1)) + 1 := by omega
    rw [e, rulesFrom, if_neg (by simpa using h k (by omega))]

def VRel1 (l : List GR) (n : Int) (w : World) (i : Value) (wr : World) : Prop :=
  ∃ k : Nat, k ≤ l.length ∧ i = .int .i64 k ∧ (∀ j, j < k → ruleE (ixR l j) n = 0) ∧ Below w.heap.size w wr

def VRel2 (l : List GM) (n : Int) (w : World) (i : Value) (wr : World) : Prop :=
  ∃ k : Nat, k ≤ l.length ∧ i = .int .i64 k ∧ (∀ j, j < k → minAt l n j = true) ∧ Below w.heap.size w wr

set_option maxHeartbeats 1000000 in
set_option maxRecDepth 100000 in
theorem valid_any (v : Value) (p : GP) (w : World) (h : ProgIs w v p) :
    Calls Tryz.prog 36 #[v] w (ValidPost p w) := by
  have h0 := h
  obtain ⟨vn, vs, vr, vm, rfl, hn, hnames, hshown, hrules, hmin⟩ := h
  have hal := bal (Below.refl w.heap.size w) (.cells #[.int .i64 p.n, vn, vs, vr, vm] 27)
  have HP := Lib.hid (h0.below hal)
  clear h0 hnames hshown
  obtain ⟨a1, c1, rfl, -, hl1, -, hcell⟩ := hrules.form
  obtain ⟨a2, c2, rfl, -, hl2, -, hmcell⟩ := hmin.form
  clear hrules hmin
  cases h1 : namedB p with
  | false =>
    have HF : Hid (validE p = 170) := Lib.hid (by simp [validE, h1])
    go_enter Tryz.func36, Tryz.ntmps36
    go_wp2_with (go_at_call 95; refine (named_any _ p _ HP.out).mono ?_; rintro e w1 ⟨rfl, hb1⟩; have hc1 := bcell hb1; have hz1 : w.heap.size < w1.heap.size := (by have := hb1.size; simp at this; omega))
    go_ret
    exact ⟨ret_int HF.out.symm, bon hal hb1⟩
  | true =>
  by_cases h2 : 40000 < p.rules.length
  · have HF : Hid (validE p = 171) := Lib.hid (by simp [validE, h1, h2])
    go_enter Tryz.func36, Tryz.ntmps36
    go_wp2_with (go_at_call 95; refine (named_any _ p _ HP.out).mono ?_; rintro e w1 ⟨rfl, hb1⟩; have hc1 := bcell hb1; have hz1 : w.heap.size < w1.heap.size := (by have := hb1.size; simp at this; omega))
    go_ret
    exact ⟨ret_int HF.out.symm, bon hal hb1⟩
  have HF : Hid (validE p = if rulesE p.rules p.n ≠ 0 then rulesE p.rules p.n else if 8 < p.min.length then 175 else if minsB p.min p.n = false then 175 else 0) := Lib.hid (by simp [validE, h1, h2])
  have hn4 : 0 ≤ p.n ∧ p.n ≤ 4000 := by simp only [namedB, Bool.and_eq_true, decide_eq_true_eq] at h1; omega
  go_enter Tryz.func36, Tryz.ntmps36
  go_wp2_with (go_at_call 95; refine (named_any _ p _ HP.out).mono ?_; rintro e w1 ⟨rfl, hb1⟩; have hc1 := bcell hb1; have hz1 : w.heap.size < w1.heap.size := (by have := hb1.size; simp at this; omega))
  obtain ⟨W, hW⟩ : ∃ W, W = (w.alloc (.cells #[.int .i64 p.n, vn, vs, .slice a1 p.rules.length c1, .slice a2 p.min.length c2] 27)) := ⟨_, rfl⟩
  go_loopw [20] (VRel1 p.rules p.n W) (fun i _ => p.rules.length - (intOf i).toNat)
  case atStart => exact ⟨0, by omega, rfl, fun j hj => absurd hj (Nat.not_lt_zero _), by rw [hW]; exact hb1⟩
  case round =>
    obtain ⟨k, hk, rfl, hok, hb⟩ := hrel
    have HOK := Lib.hid hok
    clear hok
    have hsW : w.heap.size < W.heap.size := by rw [hW]; simp
    have hsr : w.heap.size < wr.heap.size := Nat.lt_of_lt_of_le hsW hb.size
    have q0 : wr.cell? ⟨w.heap.size, 0, none⟩ = some (.int .i64 p.n) := by rw [bcell hb _ _ hsW, hW]; go_simp
    have q3 : wr.cell? ⟨w.heap.size, 4, none⟩ = some (.slice a2 p.min.length c2) := by rw [bcell hb _ _ hsW, hW]; go_simp
    clear hc1
    rw [← hW] at hal
    have hbw := bon hal hb
    clear hW
    by_cases hlt : k < p.rules.length
    · obtain ⟨b, off, rfl, hbl, hc⟩ := hcell (by omega)
      obtain ⟨vh, vb, vw, hcc, hsl⟩ := hc k hlt
      obtain ⟨r0, r1, r2, r3, r4, r5⟩ := hcc.below hbw hbl
      have HS := Lib.hid (hsl.below hbw)
      obtain ⟨a3, c3, rfl, -, hl3, -, -⟩ := hsl.head.form
      obtain ⟨a4, c4, rfl, -, hl4, -, -⟩ := hsl.body.form
      obtain ⟨a5, c5, rfl, -, hl5, -, -⟩ := hsl.wts.form
      have hbx : ∀ r, Below wr.heap.size wr (wr.alloc r) := fun r => bal (Below.refl _ _) r
      have HR : Hid (∀ w', Below wr.heap.size wr w' → RuleIs w' (.agg #[.bool (ixR p.rules k).choice, .slice a3 (ixR p.rules k).head.length c3, .bool (ixR p.rules k).sum, .int .i64 (ixR p.rules k).bound, .slice a4 (ixR p.rules k).body.length c4, .slice a5 (ixR p.rules k).w.length c5]) (ixR p.rules k)) := Lib.hid (fun w' hw => ⟨_, _, _, rfl, HS.out.below hw⟩)
      clear hc hcell hcc hsl
      by_cases hz : ruleE (ixR p.rules k) p.n = 0
      · have hz1 : (ruleE (ixR p.rules k) p.n == 0) = true := by simp [hz]
        have hz2 : (ruleE (ixR p.rules k) p.n != 0) = false := by simp [hz]
        have HZ := Lib.hid hz
        clear hz
        go_wp2_with (go_at_call 96; refine (rule_any _ _ _ _ (HR.out _ (hbx _))).mono ?_; rintro e w2 ⟨rfl, hb2⟩)
        first
          | (go_roundw
             case rel => (exact ⟨k + 1, by omega, by go_num, lt_succ_all HOK.out HZ.out, bon (bal hb _) hb2⟩)
             case measure => (simp [intOf]; omega))
          | (refine ⟨?_, ?_⟩
             · (exact ⟨k + 1, by omega, by go_num, lt_succ_all HOK.out HZ.out, bon (bal hb _) hb2⟩)
             · (simp [intOf]; omega))
      · have hz1 : (ruleE (ixR p.rules k) p.n == 0) = false := by simp [hz]
        have hz2 : (ruleE (ixR p.rules k) p.n != 0) = true := by simp [hz]
        have HZ := Lib.hid hz
        clear hz
        go_wp2_with (go_at_call 96; refine (rule_any _ _ _ _ (HR.out _ (hbx _))).mono ?_; rintro e w2 ⟨rfl, hb2⟩)
        go_ret
        refine ⟨ret_int ?_, bon (bal hbw _) hb2⟩
        have e1 : rulesE p.rules p.n = ruleE (ixR p.rules k) p.n := by
          rw [rulesFrom_split p.rules p.n k hk HOK.out, show p.rules.length - k = (p.rules.length - k - 1) + 1 by omega, rulesFrom, if_pos HZ.out]
        rw [HF.out, e1, if_pos HZ.out]
    · have e1 : rulesE p.rules p.n = 0 := by
        rw [rulesFrom_split p.rules p.n k hk HOK.out, show p.rules.length - k = 0 by omega]; rfl
      rw [e1] at HF
      by_cases h3 : 8 < p.min.length
      · go_wp2
        go_ret
        exact ⟨ret_int (by rw [HF.out]; simp [h3]), hbw⟩
      go_wp2
      clear HOK hlt hk e1
      have HBW := Lib.hid hbw
      clear hbw hb hal
      obtain ⟨wo, hwo⟩ : ∃ wo : World, wo = wr := ⟨_, rfl⟩
      rw [← hwo] at q0 q3 hsr HBW ⊢
      clear hwo
      go_loopw [39] (VRel2 p.min p.n wo) (fun i _ => p.min.length - (intOf i).toNat)
      case atStart => exact ⟨0, by omega, rfl, fun j hj => absurd hj (Nat.not_lt_zero _), Below.refl _ _⟩
      case round =>
        obtain ⟨k, hk, rfl, hok, hb⟩ := hrel
        have HOK := Lib.hid hok
        clear hok
        have hbw := bon HBW.out hb
        replace q0 := (bcell hb _ _ hsr).trans q0
        replace q3 := (bcell hb _ _ hsr).trans q3
        have hsr2 := Nat.lt_of_lt_of_le hsr hb.size
        by_cases hlt : k < p.min.length
        · obtain ⟨b, off, rfl, hbl, hc⟩ := hmcell (by omega)
          obtain ⟨vl, vw, hcc, hsl⟩ := hc k hlt
          obtain ⟨vl', vw', hcc', hsl'⟩ := hc (k - 1) (by omega)
          obtain ⟨m0, m1, m2⟩ := hcc.below hbw hbl
          obtain ⟨m0', -, -⟩ := hcc'.below hbw hbl
          have HS := Lib.hid (hsl.below hbw)
          obtain ⟨a3, c3, rfl, -, hl3, -, -⟩ := hsl.lits.form
          obtain ⟨a4, c4, rfl, -, hl4, -, -⟩ := hsl.wts.form
          have hlv := hsl.level
          have hlv' := hsl'.level
          unfold InI at hlv hlv'
          have hbr := Nat.lt_of_lt_of_le hbl hbw.size
          obtain ⟨W2, hW2⟩ : ∃ W2, W2 = wr.alloc (.cells #[.int .i64 (ixM p.min k).level, .slice a3 (ixM p.min k).lits.length c3, .slice a4 (ixM p.min k).w.length c4] 83) := ⟨_, rfl⟩
          have hbx : Below wr.heap.size wr W2 := by rw [hW2]; exact bal (Below.refl _ _) _
          have hz2 : wr.heap.size < W2.heap.size := by rw [hW2]; simp
          have HL : Hid (∀ e : Ext W2, Ints e.world (.slice a3 (ixM p.min k).lits.length c3) (ixM p.min k).lits) := Lib.hid (fun e => HS.out.lits.below (bon hbx e.below))
          have HW2 : Hid (∀ e : Ext W2, Ints e.world (.slice a4 (ixM p.min k).w.length c4) (ixM p.min k).w) := Lib.hid (fun e => HS.out.wts.below (bon hbx e.below))
          have x0 : ∀ e : Ext W2, e.world.cell? ⟨w.heap.size, 0, none⟩ = some (.int .i64 p.n) := fun e => (bcell (bon hbx e.below) _ _ hsr2).trans q0
          have x1 : ∀ e : Ext W2, e.world.cell? ⟨w.heap.size, 4, none⟩ = some (.slice (some ⟨b, off, none⟩) p.min.length c2) := fun e => (bcell (bon hbx e.below) _ _ hsr2).trans q3
          have x2 : ∀ e : Ext W2, e.world.cell? ⟨wr.heap.size, 0, none⟩ = some (.int .i64 (ixM p.min k).level) := fun e => (bcell e.below _ _ hz2).trans (by rw [hW2]; go_simp)
          have x3 : ∀ e : Ext W2, e.world.cell? ⟨wr.heap.size, 1, none⟩ = some (.slice a3 (ixM p.min k).lits.length c3) := fun e => (bcell e.below _ _ hz2).trans (by rw [hW2]; go_simp)
          have x4 : ∀ e : Ext W2, e.world.cell? ⟨wr.heap.size, 2, none⟩ = some (.slice a4 (ixM p.min k).w.length c4) := fun e => (bcell e.below _ _ hz2).trans (by rw [hW2]; go_simp)
          have x5 : ∀ e : Ext W2, e.world.cell? ⟨b, off + (k - 1) * 3, none⟩ = some (.int .i64 (ixM p.min (k - 1)).level) := fun e => (bcell (bon hbx e.below) _ _ hbr).trans m0'
          clear hc hmcell hcell hcc hcc' hsl hsl' m0'
          have hW2' := hW2.symm
          clear hW2
          have hbad : minAt p.min p.n k = false → Hid (validE p = 175) := fun h => Lib.hid (by rw [HF.out, minsB, allR_false k hlt h]; simp)
          have hmk : minAt p.min p.n k = (orderedB (ixM p.min k).lits p.n && weightsB (ixM p.min k).w (ixM p.min k).lits.length && decide (-2147483647 ≤ (ixM p.min k).level ∧ (ixM p.min k).level ≤ 2147483647) && (k == 0 || decide ((ixM p.min k).level < (ixM p.min (k - 1)).level))) := rfl
          have HMK := Lib.hid hmk
          have HBAD := Lib.hid hbad
          clear hmk hbad
          have hbw2 := fun (w9 : World) (hb9 : Below W2.heap.size W2 w9) => bon hbw (bon hbx hb9)
          have HFIN := Lib.hid hbw2
          have HFIN2 : Hid (∀ w9 : World, Below W2.heap.size W2 w9 → Below wo.heap.size wo w9) := Lib.hid (fun w9 hb9 => bon hb (bon hbx hb9))
          clear hbw2
          cases g1 : orderedB (ixM p.min k).lits p.n with
          | false =>
            have HB := HBAD.out (by rw [HMK.out, g1]; rfl)
            go_wp2
            refine wp_region_ext (by kernel_rfl) (by kernel_rfl) ?_
            repeat (go_big_quiet_step ((first | (go_at_call 97; exact Calls.ext_of (ordered_any _ _ _ _ (HL.out _) (by omega))) | (go_at_call 98; exact Calls.ext_of_same (weights_any _ _ _ _ (HW2.out _))))))
            refine wpQuiet_nil ?_
            intro _ hw'
            obtain ⟨⟨w9, hb9⟩, rfl⟩ := hw'
            try dsimp only
            go_wp2
            go_ret
            exact ⟨ret_int HB.out.symm, HFIN.out _ hb9⟩
          | true =>
          cases g2 : weightsB (ixM p.min k).w (ixM p.min k).lits.length with
          | false =>
            have HB := HBAD.out (by rw [HMK.out, g1, g2]; rfl)
            go_wp2
            refine wp_region_ext (by kernel_rfl) (by kernel_rfl) ?_
            repeat (go_big_quiet_step ((first | (go_at_call 97; exact Calls.ext_of (ordered_any _ _ _ _ (HL.out _) (by omega))) | (go_at_call 98; exact Calls.ext_of_same (weights_any _ _ _ _ (HW2.out _))))))
            refine wpQuiet_nil ?_
            intro _ hw'
            obtain ⟨⟨w9, hb9⟩, rfl⟩ := hw'
            try dsimp only
            go_wp2
            go_ret
            exact ⟨ret_int HB.out.symm, HFIN.out _ hb9⟩
          | true =>
          by_cases g3 : (ixM p.min k).level < -2147483647
          · have HB := HBAD.out (by rw [HMK.out, g1, g2]; simp; omega)
            go_wp2
            refine wp_region_ext (by kernel_rfl) (by kernel_rfl) ?_
            repeat (go_big_quiet_step ((first | (go_at_call 97; exact Calls.ext_of (ordered_any _ _ _ _ (HL.out _) (by omega))) | (go_at_call 98; exact Calls.ext_of_same (weights_any _ _ _ _ (HW2.out _))))))
            refine wpQuiet_nil ?_
            intro _ hw'
            obtain ⟨⟨w9, hb9⟩, rfl⟩ := hw'
            try dsimp only
            go_wp2
            go_ret
            exact ⟨ret_int HB.out.symm, HFIN.out _ hb9⟩
          have g3' : decide ((ixM p.min k).level < -2147483647) = false := by simp; omega
          by_cases g4 : 2147483647 < (ixM p.min k).level
          · have HB := HBAD.out (by rw [HMK.out, g1, g2]; simp; omega)
            go_wp2
            refine wp_region_ext (by kernel_rfl) (by kernel_rfl) ?_
            repeat (go_big_quiet_step ((first | (go_at_call 97; exact Calls.ext_of (ordered_any _ _ _ _ (HL.out _) (by omega))) | (go_at_call 98; exact Calls.ext_of_same (weights_any _ _ _ _ (HW2.out _))))))
            refine wpQuiet_nil ?_
            intro _ hw'
            obtain ⟨⟨w9, hb9⟩, rfl⟩ := hw'
            try dsimp only
            go_wp2
            go_ret
            exact ⟨ret_int HB.out.symm, HFIN.out _ hb9⟩
          have g4' : decide (2147483647 < (ixM p.min k).level) = false := by simp; omega
          have g34 : decide (-2147483647 ≤ (ixM p.min k).level ∧ (ixM p.min k).level ≤ 2147483647) = true := by simp; omega
          by_cases hk0 : k = 0
          · have hkp : decide (0 < k) = false := by simp; omega
            have HZ : Hid (minAt p.min p.n k = true) := Lib.hid (by rw [HMK.out, g1, g2, g34, hk0]; rfl)
            clear hk0 g34
            go_wp2
            refine wp_region_ext (by kernel_rfl) (by kernel_rfl) ?_
            repeat (go_big_quiet_step ((first | (go_at_call 97; exact Calls.ext_of (ordered_any _ _ _ _ (HL.out _) (by omega))) | (go_at_call 98; exact Calls.ext_of_same (weights_any _ _ _ _ (HW2.out _))))))
            refine wpQuiet_nil ?_
            intro _ hw'
            obtain ⟨⟨w9, hb9⟩, rfl⟩ := hw'
            try dsimp only
            go_wp2
            first
              | (go_roundw
                 case rel => (exact ⟨k + 1, by omega, by go_num, lt_succ_all HOK.out HZ.out, HFIN2.out _ hb9⟩)
                 case measure => (simp [intOf]; omega))
              | (refine ⟨?_, ?_⟩
                 · (exact ⟨k + 1, by omega, by go_num, lt_succ_all HOK.out HZ.out, HFIN2.out _ hb9⟩)
                 · (simp [intOf]; omega))
          have hkp : decide (0 < k) = true := by simp; omega
          have hkq : (0 : Int) < (k : Int) := by omega
          have hkn : (0 : Int) ≤ (k : Int) - 1 := by omega
          have hkm : ((k : Int) - 1).toNat = k - 1 := by omega
          have hkb : (k == 0) = false := by simp [hk0]
          by_cases g5 : (ixM p.min (k - 1)).level ≤ (ixM p.min k).level
          · have HB := HBAD.out (by rw [HMK.out, g1, g2, g34, hkb]; simp; omega)
            clear g34 hkb
            go_wp2
            refine wp_region_ext (by kernel_rfl) (by kernel_rfl) ?_
            repeat (go_big_quiet_step ((first | (go_at_call 97; exact Calls.ext_of (ordered_any _ _ _ _ (HL.out _) (by omega))) | (go_at_call 98; exact Calls.ext_of_same (weights_any _ _ _ _ (HW2.out _))))))
            refine wpQuiet_nil ?_
            intro _ hw'
            obtain ⟨⟨w9, hb9⟩, rfl⟩ := hw'
            try dsimp only
            go_wp2
            go_ret
            exact ⟨ret_int HB.out.symm, HFIN.out _ hb9⟩
          · have g5' : decide ((ixM p.min (k - 1)).level ≤ (ixM p.min k).level) = false := by simp; omega
            have HZ : Hid (minAt p.min p.n k = true) := Lib.hid (by rw [HMK.out, g1, g2, g34, hkb]; simp; omega)
            clear g34 hkb
            go_wp2
            refine wp_region_ext (by kernel_rfl) (by kernel_rfl) ?_
            repeat (go_big_quiet_step ((first | (go_at_call 97; exact Calls.ext_of (ordered_any _ _ _ _ (HL.out _) (by omega))) | (go_at_call 98; exact Calls.ext_of_same (weights_any _ _ _ _ (HW2.out _))))))
            refine wpQuiet_nil ?_
            intro _ hw'
            obtain ⟨⟨w9, hb9⟩, rfl⟩ := hw'
            try dsimp only
            go_wp2
            first
              | (go_roundw
                 case rel => (exact ⟨k + 1, by omega, by go_num, lt_succ_all HOK.out HZ.out, HFIN2.out _ hb9⟩)
                 case measure => (simp [intOf]; omega))
              | (refine ⟨?_, ?_⟩
                 · (exact ⟨k + 1, by omega, by go_num, lt_succ_all HOK.out HZ.out, HFIN2.out _ hb9⟩)
                 · (simp [intOf]; omega))
        · have HL2 : Hid (k = p.min.length) := Lib.hid (by omega)
          have HE : Hid (validE p = 0) := Lib.hid (by rw [HF.out, minsB, allR_true (by rw [← HL2.out]; exact HOK.out)]; simp [h3])
          go_wp2
          go_ret
          exact ⟨ret_int HE.out.symm, hbw⟩

end Go.Proofs.YtfhpfbakoiekpaaGreatDoor

/- What a valid program's lists are like; the rows of the sources, as plain lists. -/
namespace Go.Proofs.YtfhpfbakoiekpaaGreatDoor
open Go.RowKit

def litKey (x : Int) : Int := if 0 ≤ x then 2 * x else -(2 * x) + 1

theorem ordI_key {x y : Int} (h : ordI x y < 0) : litKey x < litKey y := by
  unfold ordI orI cmpI at h
  unfold litKey
  grind

theorem ordered_lt {l : List Int} {n : Int} (h : orderedB l n = true) : ∀ j, j < l.length → ∀ i, i < j → litKey (ix l i) < litKey (ix l j) := by
  intro j
  induction j with
  | zero => intro _ i hi; omega
  | succ j ih =>
    intro hj i hi
    have h1 := allR_get h (j + 1) hj
    simp only [okAt, Bool.and_eq_true, Bool.or_eq_true, beq_iff_eq, decide_eq_true_eq, Nat.add_sub_cancel] at h1
    have h2 := ordI_key (h1.2.resolve_left (by omega))
    rcases Nat.lt_or_ge i j with h3 | h3
    · have := ih (by omega) i h3; omega
    · obtain rfl : i = j := by omega
      exact h2

theorem ordered_lit {l : List Int} {n : Int} (h : orderedB l n = true) {x : Int} (hx : x ∈ l) : x ≠ 0 ∧ -n ≤ x ∧ x ≤ n := by
  obtain ⟨i, hi, rfl⟩ := List.mem_iff_getElem.1 hx
  have h1 := allR_get h i hi
  simp only [okAt, litB, Bool.and_eq_true, decide_eq_true_eq] at h1
  have : ix l i = l[i] := by simp [ix, List.getD_eq_getElem?_getD, List.getElem?_eq_getElem hi]
  rw [this] at h1
  exact h1.1

theorem increasing_ordered {l : List Int} {n : Int} (h : increasingB l n = true) : orderedB l n = true := by
  unfold increasingB at h; simp only [Bool.and_eq_true] at h; exact h.1

theorem rulesFrom_zero {l : List GR} {n : Int} : ∀ m k, rulesFrom l n k m = 0 → ∀ i, k ≤ i → i < k + m → ruleE (ixR l i) n = 0
  | 0, k, _, i, h1, h2 => by omega
  | m + 1, k, h, i, h1, h2 => by
    unfold rulesFrom at h
    split at h
    · rename_i hne; exact absurd h hne
    · rename_i he
      by_cases hik : i = k
      · subst hik; exact Decidable.not_not.1 he
      · exact rulesFrom_zero m (k + 1) h i (by omega) (by omega)

/-- What a valid program is. -/
structure ValidP (p : GP) : Prop where
  n : 0 ≤ p.n ∧ p.n ≤ 4000
  rules : p.rules.length ≤ 40000
  head : ∀ i, i < p.rules.length → increasingB (ixR p.rules i).head p.n = true
  body : ∀ i, i < p.rules.length → orderedB (ixR p.rules i).body p.n = true
  sum : ∀ i, i < p.rules.length → (ixR p.rules i).sum = true → weightsB (ixR p.rules i).w (ixR p.rules i).body.length = true
  bound : ∀ i, i < p.rules.length → 0 ≤ (ixR p.rules i).bound

theorem validP {p : GP} (h : validE p = 0) : ValidP p := by
  unfold validE at h
  split at h
  · omega
  rename_i h1
  split at h
  · omega
  rename_i h2
  split at h
  · rename_i h3; exact absurd h h3
  rename_i h3
  have h3 := Decidable.not_not.1 h3
  have hr := fun i (hi : i < p.rules.length) => rulesFrom_zero p.rules.length 0 h3 i (by omega) (by omega)
  simp only [namedB, Bool.not_eq_false, Bool.and_eq_true, decide_eq_true_eq] at h1
  refine ⟨by omega, by omega, fun i hi => ?_, fun i hi => ?_, fun i hi hs => ?_, fun i hi => ?_⟩ <;> have h4 := hr i hi <;> unfold ruleE at h4 <;> grind

/-! ### Rows -/
/-- The rows when the first k rules, and the first j places of rule k, have been entered. -/
def RowsAt (q : Int → Bool) (f : Nat → List Int) (k j : Nat) (R : Int → List Int) : Prop :=
  ∀ x, (R x).Pairwise (· < ·) ∧ ∀ i, i ∈ R x ↔ q x = true ∧ ((0 ≤ i ∧ i < k ∧ x ∈ f i.toNat) ∨ (i = k ∧ x ∈ (f k).take j))

section
variable {q : Int → Bool} {f : Nat → List Int} {k j : Nat} {R : Int → List Int}

theorem RowsAt.start : RowsAt q f 0 0 (fun _ => []) := fun x => ⟨List.Pairwise.nil, fun i => by simp; intros; omega⟩

theorem take_ix (l : List Int) (j : Nat) (hj : j < l.length) : l.take (j + 1) = l.take j ++ [ix l j] := by
  rw [List.take_add_one]; simp [ix, List.getElem?_eq_getElem hj]

theorem RowsAt.push (h : RowsAt q f k j R) (hj : j < (f k).length) (hq : q (ix (f k) j) = true) (hn : ix (f k) j ∉ (f k).take j) : RowsAt q f k (j + 1) (pushR R (ix (f k) j) k) := by
  intro y
  obtain ⟨h1, h2⟩ := h y
  unfold pushR
  rw [take_ix _ _ hj]
  split
  · rename_i e
    subst e
    refine ⟨List.pairwise_append.2 ⟨h1, by simp, fun a ha b hb => ?_⟩, fun i => ?_⟩
    · simp only [List.mem_singleton] at hb
      subst hb
      have := ((h2 a).1 ha).2
      rcases this with h3 | h3
      · exact h3.2.1
      · exact absurd h3.2 hn
    · simp only [List.mem_append, List.mem_singleton, h2]
      grind
  · rename_i e
    refine ⟨h1, fun i => ?_⟩
    simp only [List.mem_append, List.mem_singleton, h2, e, or_false]

theorem RowsAt.skip (h : RowsAt q f k j R) (hj : j < (f k).length) (hq : q (ix (f k) j) = false) : RowsAt q f k (j + 1) R := by
  intro y
  obtain ⟨h1, h2⟩ := h y
  rw [take_ix _ _ hj]
  refine ⟨h1, fun i => ?_⟩
  simp only [List.mem_append, List.mem_singleton, h2]
  constructor
  · grind
  · rintro ⟨h3, h4 | ⟨h4, h5 | rfl⟩⟩
    · exact ⟨h3, .inl h4⟩
    · exact ⟨h3, .inr ⟨h4, h5⟩⟩
    · rw [hq] at h3; cases h3

theorem RowsAt.next (h : RowsAt q f k (f k).length R) : RowsAt q f (k + 1) 0 R := by
  intro y
  obtain ⟨h1, h2⟩ := h y
  refine ⟨h1, fun i => ?_⟩
  rw [h2]
  simp only [List.take_length, List.take_zero, List.not_mem_nil, and_false, or_false]
  constructor
  · rintro ⟨h3, h4 | ⟨rfl, h4⟩⟩
    · exact ⟨h3, by omega, by push_cast; omega, h4.2.2⟩
    · exact ⟨h3, by omega, by push_cast; omega, by simpa using h4⟩
  · rintro ⟨h3, h4, h5, h6⟩
    refine ⟨h3, ?_⟩
    by_cases e : i = k
    · subst e; exact .inr ⟨rfl, by simpa using h6⟩
    · exact .inl ⟨h4, by push_cast at h5; omega, h6⟩

theorem lt_length : ∀ (l : List Int) (a b : Int), l.Pairwise (· < ·) → (∀ x ∈ l, a ≤ x ∧ x < b) → a ≤ b → (l.length : Int) ≤ b - a
  | [], a, b, _, _, h => by simp; omega
  | x :: l, a, b, h1, h2, h => by
    obtain ⟨h3, h4⟩ := List.pairwise_cons.1 h1
    have hx := h2 x (.head _)
    have := lt_length l (x + 1) b h4 (fun y hy => ⟨by have := h3 y hy; omega, (h2 y (.tail _ hy)).2⟩) (by omega)
    simp only [List.length_cons]
    push_cast
    omega

theorem RowsAt.len (h : RowsAt q f k j R) (x : Int) : (R x).length ≤ k + 1 := by
  have := lt_length (R x) 0 (k + 1) (h x).1 (fun i hi => by have := ((h x).2 i).1 hi; omega) (by omega)
  omega

end

end Go.Proofs.YtfhpfbakoiekpaaGreatDoor

/- complete.Body. -/
namespace Go.Proofs.YtfhpfbakoiekpaaGreatDoor
open Go.RowKit

def bodyI (p : GP) (i : Int) : Int := if i < 0 ∨ p.rules.length ≤ i ∨ validE p ≠ 0 then 0 else p.n + 1 + i

set_option maxHeartbeats 1000000 in
theorem body_any (v : Value) (p : GP) (w : World) (h : ProgIs w v p) (i : Int) (hi : InI i) :
    Calls Tryz.prog 19 #[v, .int .i64 i] w fun e w' => e = .returned (.int .i64 (bodyI p i)) ∧ Below w.heap.size w w' := by
  have h0 := h
  obtain ⟨vn, vs, vr, vm, rfl, hn, hnames, hshown, hrules, hmin⟩ := h
  have hal := bal (Below.refl w.heap.size w) (.cells #[.int .i64 p.n, vn, vs, vr, vm] 27)
  have HP := Lib.hid (h0.below hal)
  clear h0 hnames hshown hmin
  obtain ⟨a1, c1, rfl, -, hl1, -, hcell⟩ := hrules.form
  clear hrules hcell
  unfold InI at hi hn
  by_cases h1 : i < 0
  · have HF : Hid (bodyI p i = 0) := Lib.hid (by simp [bodyI, h1])
    go_enter Tryz.func19, Tryz.ntmps19
    go_wp2
    go_ret
    exact ⟨ret_int HF.out.symm, hal⟩
  by_cases h2 : p.rules.length ≤ i
  · have HF : Hid (bodyI p i = 0) := Lib.hid (by simp [bodyI, h2])
    go_enter Tryz.func19, Tryz.ntmps19
    go_wp2
    go_ret
    exact ⟨ret_int HF.out.symm, hal⟩
  by_cases h3 : validE p = 0
  · have HF : Hid (bodyI p i = p.n + 1 + i) := Lib.hid (by simp [bodyI, h1, h2, h3])
    have g1 : (validE p == 0) = true := by simp [h3]
    have g2 : (validE p != 0) = false := by simp [h3]
    have hv := validP h3
    have hvn := hv.n
    have hvr := hv.rules
    clear h3 hv
    go_enter Tryz.func19, Tryz.ntmps19
    go_wp2_with (go_at_call 36; refine (valid_any _ p _ HP.out).mono ?_; rintro e w1 ⟨rfl, hb1⟩; have hc1 := bcell hb1; have hz1 : w.heap.size < w1.heap.size := (by have := hb1.size; simp at this; omega))
    go_ret
    exact ⟨ret_int HF.out.symm, bon hal hb1⟩
  · have HF : Hid (bodyI p i = 0) := Lib.hid (by simp [bodyI, h3])
    have g1 : (validE p == 0) = false := by simp [h3]
    have g2 : (validE p != 0) = true := by simp [h3]
    clear h3
    go_enter Tryz.func19, Tryz.ntmps19
    go_wp2_with (go_at_call 36; refine (valid_any _ p _ HP.out).mono ?_; rintro e w1 ⟨rfl, hb1⟩; have hc1 := bcell hb1; have hz1 : w.heap.size < w1.heap.size := (by have := hb1.size; simp at this; omega))
    go_ret
    exact ⟨ret_int HF.out.symm, bon hal hb1⟩

end Go.Proofs.YtfhpfbakoiekpaaGreatDoor

/- False literals and what a body's weights come to: plain. -/
namespace Go.Proofs.YtfhpfbakoiekpaaGreatDoor
open Go.RowKit

def offB (a : List Int) (l : Int) : Bool := decide (l.natAbs ≤ a.length) && decide (ix a (l.natAbs - 1) ≠ 0) && (decide (0 < ix a (l.natAbs - 1)) != decide (0 < l))

theorem offB_pos (a : List Int) (n : Nat) (hn : 1 ≤ n) : offB a n = (decide (n ≤ a.length) && decide (ix a (n - 1) ≠ 0) && decide (¬ 0 < ix a (n - 1))) := by
  unfold offB
  rw [Int.natAbs_natCast]
  have : decide ((0 : Int) < n) = true := decide_eq_true (by omega)
  rw [this]
  by_cases h : 0 < ix a (n - 1) <;> simp [h]

theorem offB_neg (a : List Int) (n : Nat) : offB a (-(n : Int)) = (decide (n ≤ a.length) && decide (ix a (n - 1) ≠ 0) && decide (0 < ix a (n - 1))) := by
  unfold offB
  rw [Int.natAbs_neg, Int.natAbs_natCast]
  have : decide ((0 : Int) < -(n : Int)) = false := decide_eq_false (by omega)
  rw [this]
  by_cases h : 0 < ix a (n - 1) <;> simp [h]

def holdsB (a : List Int) (F K : Int → Int) (before l : Int) : Bool := !offB a l && (decide (l < 0) || (decide (0 < F l) && decide (K l < before)))

def avSum (r : GR) (a : List Int) (F K : Int → Int) (before : Int) : Nat → Int
  | 0 => 0
  | k + 1 => avSum r a F K before k + if holdsB a F K before (ix r.body k) then ix r.w k else 0

def availB (p : GP) (a : List Int) (F K : Int → Int) (i : Nat) (before : Int) : Bool :=
  !offB a (p.n + 1 + i) && (if (ixR p.rules i).sum then decide ((ixR p.rules i).bound ≤ avSum (ixR p.rules i) a F K before (ixR p.rules i).body.length) else allR (ixR p.rules i).body.length (fun k => holdsB a F K before (ix (ixR p.rules i).body k)))

theorem weights_sum {l : List Int} {n : Int} (h : weightsB l n = true) : (l.length : Int) = n ∧ (∀ k, k < l.length → 1 ≤ ix l k) ∧ ∀ k, k ≤ l.length → 0 ≤ sumTo l k ∧ sumTo l k ≤ 1048576 := by
  unfold weightsB at h
  simp only [Bool.and_eq_true, decide_eq_true_eq] at h
  refine ⟨h.2, fun k hk => by have := allR_get h.1 k hk; simp at this; omega, fun k => ?_⟩
  induction k with
  | zero => intro _; simp [sumTo]
  | succ k ih =>
    intro hk
    have h1 := allR_get h.1 k (by omega)
    simp only [decide_eq_true_eq] at h1
    have := ih (by omega)
    unfold sumTo; omega

end Go.Proofs.YtfhpfbakoiekpaaGreatDoor

/- Slices of the call's own under way, small blocks that read as slices. -/
namespace Go.Proofs.YtfhpfbakoiekpaaGreatDoor
open Go.RowKit

theorem QRow.far {base : Nat} {l : List Int} {w : World} {v : Value} {b : Nat} {c : List Value} {T : TypeId} (h : QRow base w v l) (hb : Blk w b c T) (hT : T ≠ 3) : v.ownBlock ≠ some b := by
  intro e
  rcases h.2 with ⟨rfl, _⟩ | ⟨g, off, cap, cur, rfl, _, hg, _⟩
  · cases e
  · have : g = b := by simpa [Value.ownBlock] using e
    subst this
    unfold Blk at hb
    rw [hg] at hb
    have := Option.some.inj hb
    injection this with _ h2 _
    exact hT h2.symm

theorem QRow.form {base : Nat} {l : List Int} {w : World} {v : Value} (h : QRow base w v l) : ∃ a n c, v = .slice a n c := by
  rcases h.2 with ⟨rfl, _⟩ | ⟨g, off, cap, cur, rfl, _⟩
  · exact ⟨_, _, _, rfl⟩
  · exact ⟨_, _, _, rfl⟩

theorem QRow.ints {base : Nat} {w : World} {v : Value} {l : List Int} (h : QRow base w v l) (hl : l.length * 8 ≤ 140737488351232) : Ints w v l := by
  refine ⟨?_, h.1⟩
  rcases h.2 with ⟨rfl, rfl⟩ | ⟨g, off, cap, cur, rfl, hb, hg, h1, h2, h3, h4⟩
  · exact ⟨none, 0, rfl, Nat.le_refl _, by unfold maxLen; omega, by simp, fun h0 => absurd h0 (by simp)⟩
  · refine ⟨_, cap, rfl, h1, h2, hl, fun _ => ⟨g, off, rfl, (Array.getElem?_eq_some_iff.1 hg).1, fun i hi => ?_⟩⟩
    rw [cell_of_row w g (off + i) cur 3 (0, 0) hg]; exact h4 i hi

theorem QRow.below {base : Nat} {w w' : World} {v : Value} {l : List Int} (h : QRow base w v l) (hb : Below w.heap.size w w') : QRow base w' v l := h.kept fun i _ hi _ => hb.block i hi

theorem QRow.mono {base base' : Nat} {w : World} {v : Value} {l : List Int} (h : QRow base w v l) (hb : base' ≤ base) : QRow base' w v l :=
  ⟨h.1, h.2.imp id fun ⟨g, off, cap, cur, e, h1, r⟩ => ⟨g, off, cap, cur, e, by omega, r⟩⟩

theorem Ints.at {w : World} {ad : Option Addr} {n c : Nat} {l : List Int} (h : Ints w (.slice ad n c) l) {k : Nat} (hk : k < l.length) :
    ∃ b off, ad = some ⟨b, off, none⟩ ∧ b < w.heap.size ∧ w.cell? ⟨b, off + k, none⟩ = some (.int .i64 (ix l k)) := by
  obtain ⟨a2, c2, e, -, -, -, hc⟩ := h.form
  obtain ⟨b, off, e2, hl, hcc⟩ := hc (by omega)
  simp only [Value.slice.injEq] at e
  exact ⟨b, off, e.1.trans e2, hl, hcc k hk⟩

theorem eq_of_ix {l1 l2 : List Int} (hl : l1.length = l2.length) (h : ∀ j, j < l1.length → ix l1 j = ix l2 j) : l1 = l2 := by
  apply List.ext_getElem hl
  intro i h1 h2
  have := h i h1
  simpa [ix, List.getD_eq_getElem?_getD, List.getElem?_eq_getElem h1, List.getElem?_eq_getElem h2] using this

theorem alloc_at (w : World) (o : Obj) (i : Nat) : (w.alloc o).heap[i]? = if i = w.heap.size then some o else w.heap[i]? := by
  show (w.heap.push o)[i]? = _
  rw [Array.getElem?_push]

theorem Blk.ints {w : World} {b : Nat} {l : List Int} (h : Blk w b (l.map (Value.int .i64)) 3) (hf : ∀ i, InI (ix l i)) (hl : l.length * 8 ≤ 140737488351232) : Ints w (.slice (some ⟨b, 0, none⟩) l.length l.length) l := by
  refine ⟨⟨_, _, rfl, Nat.le_refl _, by unfold maxLen; omega, hl, fun _ => ⟨b, 0, rfl, h.lt, fun i hi => ?_⟩⟩, hf⟩
  rw [Nat.zero_add, h.cell]
  simp [ix, List.getD_eq_getElem?_getD, hi]

theorem Blk.ints1 {w : World} {b : Nat} {x : Int} (h : Blk w b [.int .i64 x] 3) (hx : InI x) : Ints w (.slice (some ⟨b, 0, none⟩) 1 1) [x] :=
  Blk.ints (l := [x]) h (fun i => by cases i <;> simp [ix, InI] at *; exact hx) (by simp)

theorem nil_ints (w : World) : Ints w nilS [] := ⟨⟨none, 0, rfl, Nat.le_refl _, by unfold maxLen; omega, by simp, fun h => absurd h (by simp)⟩, fun i => by simp [ix]⟩

theorem below_push {base : Nat} {W w1 w4 : World} {v : Value} {l : List Int} {o : Obj} (h : Below W.heap.size W w1) (hq : QRow base w1 v l) (hb : W.heap.size ≤ base) (hg : (w1.alloc o).grownBy w4 v.ownBlock) : Below W.heap.size W w4 := by
  refine h.trans ⟨hg.os, hg.tape, hg.output, by have := hg.size; simp at this; omega, fun i hi => ?_⟩
  refine (hg.block i (by simp; have := h.size; omega) (fun e => ?_)).trans (Below.heap_alloc _ _ _ (by have := h.size; omega))
  rcases hq.2 with ⟨rfl, _⟩ | ⟨g, off, cap, cur, rfl, hbg, _⟩
  · cases e
  · simp only [Value.ownBlock, Option.some.injEq] at e; omega

theorem below_grown {W w1 w4 : World} {o : Obj} {row : Option Nat} (h : Below W.heap.size W w1) (hb : ∀ g, row = some g → W.heap.size ≤ g) (hg : (w1.alloc o).grownBy w4 row) : Below W.heap.size W w4 := by
  refine h.trans ⟨hg.os, hg.tape, hg.output, by have := hg.size; simp at this; omega, fun i hi => ?_⟩
  exact (hg.block i (by simp; have := h.size; omega) (fun e => by have := hb i e.symm; omega)).trans (Below.heap_alloc _ _ _ (by have := h.size; omega))

theorem ix_mem {l : List Int} {j : Nat} (hj : j < l.length) : ix l j ∈ l := by
  have e : ix l j = l[j] := by simp [ix, List.getD_eq_getElem?_getD, List.getElem?_eq_getElem hj]
  rw [e]; exact List.getElem_mem hj

def cntF (F : Int → Int) : Nat → Nat
  | 0 => 0
  | n + 1 => cntF F n + if 0 < F ((n : Int) + 1) then 1 else 0

theorem Blk.bytes8 {w : World} {b : Nat} {l : List Int} (h : Blk w b (l.map (Value.int .i8)) 55) (hf : ∀ i, -128 ≤ ix l i ∧ ix l i ≤ 127) (hl : l.length * 1 ≤ 140737488351232) : Bytes8 w (.slice (some ⟨b, 0, none⟩) l.length l.length) l := by
  refine ⟨⟨_, _, rfl, Nat.le_refl _, by unfold maxLen; omega, hl, fun _ => ⟨b, 0, rfl, h.lt, fun i hi => ?_⟩⟩, hf⟩
  rw [Nat.zero_add, h.cell]
  simp [ix, List.getD_eq_getElem?_getD, hi]

theorem fit8 {l : List Int} (h : ∀ x ∈ l, -128 ≤ x ∧ x ≤ 127) (i : Nat) : -128 ≤ ix l i ∧ ix l i ≤ 127 := by
  by_cases hi : i < l.length
  · exact h _ (ix_mem hi)
  · have : ix l i = 0 := by unfold ix; rw [List.getD_eq_getElem?_getD, List.getElem?_eq_none (by omega)]; rfl
    rw [this]; omega

theorem fitI {l : List Int} (h : ∀ x ∈ l, InI x) (i : Nat) : InI (ix l i) := by
  by_cases hi : i < l.length
  · exact h _ (ix_mem hi)
  · have : ix l i = 0 := by unfold ix; rw [List.getD_eq_getElem?_getD, List.getElem?_eq_none (by omega)]; rfl
    rw [this]; unfold InI; omega

theorem QRow.slen {base : Nat} {w : World} {v : Value} {l : List Int} (h : QRow base w v l) : ∃ a c, v = .slice a l.length c := by
  rcases h.2 with ⟨rfl, rfl⟩ | ⟨g, off, cap, cur, rfl, _⟩
  · exact ⟨_, _, rfl⟩
  · exact ⟨_, _, rfl⟩

theorem allR_succ (n : Nat) (f : Nat → Bool) : allR (n + 1) f = (allR n f && f n) := by
  simp [allR, List.range_succ, List.all_append]

theorem size_set (w : World) (a : Addr) (v : Value) : (w.setCell a v).heap.size = w.heap.size := by simp [World.setCell]

theorem Blk.newAt (w : World) (c : List Value) (t : TypeId) {b : Nat} (h : b = w.heap.size) : Blk (w.alloc (.cells c.toArray t)) b c t := h ▸ Blk.new w c t

end Go.Proofs.YtfhpfbakoiekpaaGreatDoor

/- 'append(v, x...)' of a whole slice of ints to a row of the call's own. -/
namespace Go.Proofs.YtfhpfbakoiekpaaGreatDoor
open Go.RowKit


theorem map_ix (m : List Int) (j : Nat) (hj : j < m.length) : (m.map (Value.int .i64))[j]? = some (.int .i64 (ix m j)) := by
  simp [ix, List.getD_eq_getElem?_getD, List.getElem?_eq_getElem hj]

theorem Ints.src {w : World} {x : Value} {m : List Int} (h : Ints w x m) : _root_.Go.Src Tryz.prog 1 23 x m.length (m.map (Value.int .i64)) w := by
  obtain ⟨a, c, rfl, -, -, -, hc⟩ := h.form
  cases m with
  | nil =>
    cases a with
    | none => exact _root_.Go.Src.ofNil w Tryz.underlying23 c
    | some a => exact _root_.Go.Src.ofSlice w Tryz.underlying23 a 0 c [] (by simp) (fun j u hu => by simp at hu) (fun u hu => by simp at hu)
  | cons y m =>
    obtain ⟨b, off, rfl, -, hcc⟩ := hc (by simp)
    refine _root_.Go.Src.ofSlice w Tryz.underlying23 ⟨b, off, none⟩ _ c ((y :: m).map (Value.int .i64)) (by simp) (fun j u hu => ?_) (fun u hu => ?_)
    · have hj : j < (y :: m).length := by have := (List.getElem?_eq_some_iff.1 hu).1; simpa using this
      have hadd : (⟨b, off, none⟩ : Addr).add j = ⟨b, off + j, none⟩ := by unfold Addr.add; split <;> simp_all
      rw [hadd, hcc j hj, ← hu, map_ix _ j hj]
    · obtain ⟨z, -, rfl⟩ := List.mem_map.1 hu
      simp [Value.oneCell']

theorem ix_app (l m : List Int) (i : Nat) : ix (l ++ m) i = if i < l.length then ix l i else ix m (i - l.length) := by
  split
  · rename_i h; simp [ix, List.getElem?_append_left h]
  · rename_i h; simp [ix, List.getElem?_append_right (Nat.le_of_not_lt h)]

theorem Fits.app {l m : List Int} (h : Fits l) (k : Fits m) : Fits (l ++ m) := fun i => by
  rw [ix_app]; split
  · exact h i
  · exact k _

theorem run_appendQs (base : Nat) (T ty : TypeId) (hT : Tryz.prog.underlying T = some (.slice 3)) (hTT : T = 23) (w : World) (v : Value) (l : List Int) (h : QRow base w v l) (x : Value) (m : List Int) (hx : Ints w x m)
    (hlen : (l.length + m.length) * 8 ≤ 140737488351232) (hbase : base ≤ w.heap.size) :
    ∃ v' w', (Builtin.append_ #[T, T] ty #[v, x]).run Tryz.prog w = .ok v' w' ∧ QRow base w' v' (l ++ m) ∧ w.grownBy w' v.ownBlock ∧ (v'.ownBlock = v.ownBlock ∨ v'.ownBlock = some w.heap.size) := by
  subst hTT
  have hi := infoI
  obtain ⟨i, hi, he⟩ := Option.map_eq_some_iff.1 hi
  simp only [Prod.mk.injEq] at he
  obtain ⟨hz, hs, hby⟩ := he
  have hsrc := hx.src
  have hsrc' : _root_.Go.Src Tryz.prog i.size 23 x m.length (m.map (Value.int .i64)) w := by rw [hs]; exact hsrc
  have hfit := h.1.app hx.2
  have zc : ∀ n, (Builtin.zeroCells (Value.int .i64 0).cells n).size = n := fun n => by simp [Builtin.zeroCells, Value.cells]
  have grow : ∀ (cur : Array Value) (cap : Nat), cur.size = cap → cap ≤ maxLen → l.length + m.length ≤ cap → (∀ i, i < l.length → cur[i]? = some (.int .i64 (ix l i))) → (∀ i, i < m.length → cur[l.length + i]? = some (.int .i64 (ix m i))) →
      QRow base (w.drew.alloc (.cells cur 3)) (.slice (some ⟨w.heap.size, 0, none⟩) (l.length + m.length) cap) (l ++ m) ∧ ∀ row, w.grownBy (w.drew.alloc (.cells cur 3)) row := by
    intro cur cap h1 h2 h3 h4 h5
    refine ⟨⟨hfit, .inr ⟨w.heap.size, 0, cap, cur, by simp, hbase, heap_alloc_new w.drew _, by simpa using h3, h2, by omega, fun j hj => ?_⟩⟩, fun row => ⟨rfl, rfl, rfl, by simp, fun k hk _ => Below.heap_alloc w.drew _ _ hk⟩⟩
    simp only [List.length_append] at hj
    rw [ix_app, Nat.zero_add]
    split
    · rename_i hlt; exact h4 j hlt
    · have := h5 (j - l.length) (by omega)
      rw [show l.length + (j - l.length) = j by omega] at this
      exact this
  have growAt : ∀ (b0 : Option Addr) (cap : Nat) (olds : List Value), (Builtin.firstCells i.size l.length (.slice b0 l.length cap)).run Tryz.prog w.drew = .ok olds.toArray w.drew → olds = (List.range l.length).map (fun i => Value.int .i64 (ix l i)) → cap < l.length + m.length →
      ∃ v' w', (Builtin.append_ #[23, 23] ty #[.slice b0 l.length cap, x]).run Tryz.prog w = .ok v' w' ∧ QRow base w' v' (l ++ m) ∧ (∀ row, w.grownBy w' row) ∧ v'.ownBlock = some w.heap.size := by
    intro b0 cap olds hold holds hlt
    have hr := run_append_grow_src (P := Tryz.prog) w 23 23 ty 3 i _ hT hi hz b0 l.length cap olds hold x m.length _ hsrc' hlt (by omega) (growslice_fits hlt (by rw [hby]; omega))
    have hge := grownCap_ge w (l.length + m.length) cap 3
    have hlo : olds.length = l.length := by rw [holds]; simp
    obtain ⟨q1, q2⟩ := grow ((olds ++ m.map (Value.int .i64)).toArray ++ Builtin.zeroCells (Value.int .i64 0).cells (grownCap w (l.length + m.length) cap 3 - (l.length + m.length))) (grownCap w (l.length + m.length) cap 3)
      (by simp only [Array.size_append, List.size_toArray, List.length_append, List.length_map, hlo, zc]; omega) (grownCap_le_maxLen w (l.length + m.length) cap 3 (by unfold maxLen; omega)) hge
      (fun j hj => by
        rw [Array.getElem?_append_left (by simp; omega), List.getElem?_toArray, List.getElem?_append_left (by omega), holds]
        simp [hj])
      (fun j hj => by
        rw [Array.getElem?_append_left (by simp; omega), List.getElem?_toArray, List.getElem?_append_right (by omega), hlo, Nat.add_sub_cancel_left]
        exact map_ix m j hj)
    exact ⟨_, _, hr, q1, q2, rfl⟩
  rcases h.2 with ⟨rfl, rfl⟩ | ⟨g, off, cap, cur, rfl, hbg, hg, hnc, hcm, hcs, hcell⟩
  · cases m with
    | nil =>
      refine ⟨.slice none 0 0, w, ?_, QRow.nil _ _, ⟨rfl, rfl, rfl, Nat.le_refl _, fun _ _ _ => rfl⟩, .inl rfl⟩
      have h0 : (Builtin.firstCells i.size 0 x).run Tryz.prog w = .ok #[] w := hsrc'.cells
      simp [Builtin.append_, run_underlying hT, sizeOf, typeInfo, hi, hsrc'.len, h0]
    | cons y m =>
      obtain ⟨v', w', h1, h2, h3, h4⟩ := growAt none 0 [] (by exact run_firstCells_none (P := Tryz.prog) w.drew i.size 0 0 0) rfl (by simp)
      exact ⟨v', w', h1, h2, h3 _, .inr h4⟩
  · by_cases hroom : l.length + m.length ≤ cap
    · have hst := run_storeCells_at Tryz.prog g (off + l.length) 3 (m.map (Value.int .i64)) 0 cur w hg (by simp only [List.length_map]; omega) (by simp [Value.oneCell'])
      simp only [Nat.add_zero, List.length_map] at hst
      refine ⟨.slice (some ⟨g, off, none⟩) (l.length + m.length) cap, w.setRow g (cur.toList.take (off + l.length) ++ m.map (Value.int .i64) ++ cur.toList.drop (off + l.length + m.length)).toArray, ?_, ⟨hfit, .inr ⟨g, off, cap, (cur.toList.take (off + l.length) ++ m.map (Value.int .i64) ++ cur.toList.drop (off + l.length + m.length)).toArray, by simp, hbg, setRow_heap w g cur _ 3 _ hg, by simpa using hroom, hcm, ?_, fun j hj => ?_⟩⟩, ⟨rfl, rfl, rfl, by simp, fun k _ hk => setRow_other w g k _ (fun e => hk (by simp [Value.ownBlock, e]))⟩, .inl rfl⟩
      · have hadd : (⟨g, off, none⟩ : Addr).add (l.length * i.size) = ⟨g, off + l.length, none⟩ := by rw [hs]; unfold Addr.add; split <;> simp_all
        simp [Builtin.append_, run_underlying hT, sizeOf, typeInfo, hi, hsrc'.len, hroom, hsrc'.cells, hadd, hst]
      · simp only [List.size_toArray, List.length_append, List.length_take, List.length_drop, Array.length_toList, List.length_map]
        omega
      · simp only [List.length_append] at hj
        rw [ix_app]
        split
        · rename_i hlt
          rw [← hcell j hlt]
          simp only [List.getElem?_toArray, List.append_assoc]
          rw [List.getElem?_append_left (by simp; omega), List.getElem?_take_of_lt (by omega)]
          simp
        · simp only [List.getElem?_toArray, List.append_assoc]
          rw [List.getElem?_append_right (by simp; omega)]
          have : min (off + l.length) cur.size = off + l.length := by omega
          simp only [List.length_take, Array.length_toList, this]
          rw [List.getElem?_append_left (by simp; omega), show off + j - (off + l.length) = j - l.length by omega]
          exact map_ix m _ (by omega)
    · have holds : ∀ j u, ((List.range l.length).map (fun i => Value.int .i64 (ix l i)))[j]? = some u → w.drew.cell? ((⟨g, off, none⟩ : Addr).add j) = some u := by
        intro j u hu
        have hadd : (⟨g, off, none⟩ : Addr).add j = ⟨g, off + j, none⟩ := by unfold Addr.add; split <;> simp_all
        have hj : j < l.length := by
          have := (List.getElem?_eq_some_iff.1 hu).1; simpa using this
        rw [hadd]
        show w.cell? _ = _
        rw [cell_of_row w g (off + j) cur 3 (0, 0) hg, hcell j hj]
        simpa [hj] using hu
      obtain ⟨v', w', h1, h2, h3, h4⟩ := growAt (some ⟨g, off, none⟩) cap _ (run_firstCells_some (P := Tryz.prog) w.drew i.size l.length ⟨g, off, none⟩ l.length cap _ (by rw [hs]; simp) holds) rfl (by omega)
      exact ⟨v', w', h1, h2, h3 _, .inr h4⟩

theorem wpList_appendQs {ops : Array Oper} {rest : List Oper} {o : Oper} {a : Act} {w : World} {Q : Exit → Act → World → Prop} (hgd : o.guard = none) (s x : Operand)
    (ho : o.op = .call { callee := .builtin .append, args := #[s, x], argTypes := #[23, 23] }) (base : Nat) (v y : Value) (l m : List Int) (hs : a.eval s = v) (hx : a.eval x = y) (h : QRow base w v l) (hy : Ints w y m)
    (hlen : (l.length + m.length) * 8 ≤ 140737488351232) (hbase : base ≤ w.heap.size)
    (hK : ∀ v' w', QRow base w' v' (l ++ m) → w.grownBy w' v.ownBlock → (v'.ownBlock = v.ownBlock ∨ v'.ownBlock = some w.heap.size) → wpList Tryz.prog ops Q rest (a.put o.dst v') w') : wpList Tryz.prog ops Q (o :: rest) a w :=
  wpList_plain hgd fun _ hK' => by
    obtain ⟨v', w', hr, h2, h3, h4⟩ := run_appendQs base 23 o.type Tryz.underlying23 rfl w v l h y m hy hlen hbase
    unfold Oper.wp execOp
    simp only [ho, resolve, invoke, builtin, Sem.run_bind, Sem.run_pure, Result.andThen_ok, List.map_toArray, List.map_cons, List.map_nil, hs, hx, hr]
    exact hK' _ _ (hK v' w' h2 h3 h4)

end Go.Proofs.YtfhpfbakoiekpaaGreatDoor

/- The state of a Sources object in memory. -/
namespace Go.Proofs.YtfhpfbakoiekpaaGreatDoor
open Go.RowKit

/-- The places of a Sources object, made when the heap had H blocks, done when it had T. -/
structure SP where
  H : Nat
  T : Nat
  b : Nat
  bh : Nat
  bu : Nat
  bf : Nat
  bk : Nat
  vn : Value
  vr : Value
  gh : Int → Option Value
  gu : Int → Option Value
  Rh : Int → List Int
  Ru : Int → List Int
  qh : Nat → Value
  qb : Nat → Value
  qw : Nat → Value

/-- What never turns. -/
structure FixC (s : SP) (p : GP) (w : World) : Prop where
  names : Strs w s.vn p.names
  rulesA : RulesAt w s.vr p.rules s.qh s.qb s.qw
  heads : MapIs (Value.int .i64) w s.bh s.gh
  uses : MapIs (Value.int .i64) w s.bu s.gu
  headRow : ∀ x, Ints w ((s.gh x).getD nilS) (s.Rh x)
  useRow : ∀ x, Ints w ((s.gu x).getD nilS) (s.Ru x)

theorem FixC.rules {s : SP} {p : GP} {w : World} (h : FixC s p w) : RulesIs w s.vr p.rules := ⟨_, _, _, h.rulesA⟩

theorem FixC.cells {s : SP} {p : GP} {w : World} (h : FixC s p w) : ∃ a cap, s.vr = .slice a p.rules.length cap ∧ (0 < p.rules.length → ∃ b off, a = some ⟨b, off, none⟩ ∧ b < w.heap.size ∧ ∀ i, i < p.rules.length → RuleCells w b (off + i * 6) (ixR p.rules i) (s.qh i) (s.qb i) (s.qw i)) := by
  obtain ⟨a, cap, e, h1, hm, h2, h3⟩ := h.rulesA.1
  refine ⟨a, cap, e, fun hp => ?_⟩
  obtain ⟨b, off, e, hl, hc⟩ := h3 hp
  exact ⟨b, off, e, hl, fun i hi => ⟨hc i hi 0 (by omega), hc i hi 1 (by omega), hc i hi 2 (by omega), hc i hi 3 (by omega), hc i hi 4 (by omega), hc i hi 5 (by omega)⟩⟩

section
variable {m : Nat} {s : SP} {p : GP} {F K : Int → Int} {clock : Int} {a : List Int} {w w' : World}

end

end Go.Proofs.YtfhpfbakoiekpaaGreatDoor
