/- My texts Ref17d, Rg19, Rg41h, merged. -/
import Derived.Test.YtgakoainjgjimaaGreatDoorM04
import Derived.Test.YtgakoainjgjimaaGreatDoorM03
import Derived.Test.YtgakoainjgjimaaGreatDoorM00
import Derived.Test.YtgakoainjgjimaaGreatDoorProg
import Derived.WalkKit
import Derived.Lib.Hide
import Derived.Deep.QuietTactic
import Derived.BigQuiet
import Derived.Lib.Bytealg
import Derived.MapKept
import Derived.Maps.OwnSet
import Derived.Maps.OwnOps
import Derived.Test.YtgakoainjgjimaaGreatDoorM21
import Derived.WalkSpells
import Derived.Lib.SliceRun
import Derived.Deep.DeepCutAuto
import Derived.Test.YtgakoainjgjimaaGreatDoorM05
import Derived.Test.YtgakoainjgjimaaGreatDoorM20
import Derived.Test.YtgakoainjgjimaaGreatDoorM02
import Derived.Test.YtgakoainjgjimaaGreatDoorM01
import Derived.Deep.AppendLies
import Derived.Laws.EntriesVeiled
import Derived.Test.YtgakoainjgjimaaGreatDoorM07
import Derived.Deep.RegionWith
import Derived.Deep.OwnRows
import Derived.Test.YtgakoainjgjimaaGreatDoorM06
import Derived.RangeFuncNested
import Derived.RangeFuncBound
import Derived.RangeFuncCalls
import Derived.RangeFuncLeaves
import Derived.OwnWalkIn
import Derived.TacticsInMore
import Derived.LoopNIn
import Derived.LoopIn
import Derived.Stop.RegionWithIn
import Derived.Shelf.Abstract
import Derived.Deep.LoopGhost
import Derived.Deep.DrawnRows
import Derived.Test.YtgakoainjgjimaaGreatDoorM15
import Derived.Test.YtgakoainjgjimaaGreatDoorM14
import Derived.Test.YtgakoainjgjimaaGreatDoorM09
import Derived.Shelf.Sort.Plain
import Derived.Shelf.Slices.CompactI
import Derived.Shelf.Slices.In.SortNone
import Derived.Shelf.Strconv.Itoa3
import Derived.Shelf.Strings.BuilderK
import Derived.Shelf.Slices.SearchI
import Derived.Shelf.Slices.Empties
import Derived.Lib.ItoaNum
import Derived.Test.YtgakoainjgjimaaGreatDoorM11
import Derived.Test.YtgakoainjgjimaaGreatDoorM10
import Derived.Test.YtgakoainjgjimaaGreatDoorM08
import Derived.Deep.AppendSrc
import Derived.Lib.SlicesCompact
import Derived.Sort.OwnSortedInts

namespace Go.Proofs.YtgakoainjgjimaaGreatDoor
open Go.RowKit
set_option maxHeartbeats 4000000 in
set_option maxRecDepth 100000 in
theorem valid_ref (v : Value) (p : GP) (w : World) (h : ProgIs w v p) :
    Calls Tryz.prog 34 #[v] w (ValidPost p w) := by
  obtain ⟨vn, vs, vr, vm, rfl, hn, hnames, hshown, hrules, hmin⟩ := h
  obtain ⟨a0, c0, rfl, -, hl0, -⟩ := hnames.form
  obtain ⟨a9, c9, rfl, -, hl9, -, -⟩ := hshown.form
  obtain ⟨a1, c1, rfl, -, hl1, -, hcell⟩ := hrules.form
  obtain ⟨a2, c2, rfl, -, hl2, -, hmcell⟩ := hmin.form
  have hal := bal (Below.refl w.heap.size w) (.cells #[.int .i64 p.n, .slice a0 p.names.length c0, .slice a9 p.shown.length c9, .slice a1 p.rules.length c1, .slice a2 p.min.length c2] 27)
  have HN := Lib.hid (hnames.below hal)
  have HS := Lib.hid (hshown.below hal)
  unfold InI at hn
  clear hrules hmin hnames hshown
  have H170 : Hid (namedB p = false → validE p = 170) := Lib.hid (fun h => by simp [validE, h])
  have hnd : namedB p = (decide (0 ≤ p.n ∧ p.n ≤ 4000 ∧ (p.names.length : Int) = p.n) && increasingB p.shown p.n && namesB p.names) := rfl
  have HND := Lib.hid hnd
  clear hnd
  by_cases g1 : p.n < 0
  · have HF := Lib.hid (H170.out (by rw [HND.out, decide_eq_false (by omega)]; rfl))
    go_enter Tryz.func34, Tryz.ntmps34
    go_wp2
    go_ret
    exact ⟨ret_int HF.out.symm, hal⟩
  by_cases g2 : 4000 < p.n
  · have HF := Lib.hid (H170.out (by rw [HND.out, decide_eq_false (by omega)]; rfl))
    go_enter Tryz.func34, Tryz.ntmps34
    go_wp2
    go_ret
    exact ⟨ret_int HF.out.symm, hal⟩
  by_cases g3 : (p.names.length : Int) = p.n
  case neg =>
    have HF := Lib.hid (H170.out (by rw [HND.out, decide_eq_false (by omega)]; rfl))
    have g3' : ((p.names.length : Int) != p.n) = true := by simp [g3]
    clear g3
    go_enter Tryz.func34, Tryz.ntmps34
    go_wp2
    go_ret
    exact ⟨ret_int HF.out.symm, hal⟩
  have g3' : ((p.names.length : Int) != p.n) = false := by simp [g3]
  have HND2 : Hid (namedB p = (increasingB p.shown p.n && namesB p.names)) := Lib.hid (by rw [HND.out, decide_eq_true (by omega)]; simp)
  clear g3 HND
  cases g5 : namesB p.names with
  | false =>
    have HF := Lib.hid (H170.out (by rw [HND2.out, g5]; simp))
    go_enter Tryz.func34, Tryz.ntmps34
    go_wp2_with (go_at_call 80; (with_reducible refine (names_ref _ _ _ HN.out).mono ?_); rintro e w1 ⟨e1, hb1⟩; rw [g5] at e1; subst e1; have hc1 := bcell hb1; have hz1 : w.heap.size < w1.heap.size := (by have := hb1.size; simp at this; omega))
    go_ret
    exact ⟨ret_int HF.out.symm, bon hal hb1⟩
  | true =>
  cases g6 : increasingB p.shown p.n with
  | false =>
    have HF := Lib.hid (H170.out (by rw [HND2.out, g6]; rfl))
    go_enter Tryz.func34, Tryz.ntmps34
    go_wp2_with (first | (go_at_call 80; (with_reducible refine (names_ref _ _ _ HN.out).mono ?_); rintro e w1 ⟨e1, hb1⟩; rw [g5] at e1; subst e1; have hc1 := bcell hb1; have hz1 : w.heap.size < w1.heap.size := (by have := hb1.size; simp at this; omega)) | (go_at_call 55; (with_reducible refine (atoms_ref _ _ p.n _ (HS.out.below hb1)).mono ?_); rintro e w2 ⟨e2, hb2⟩; rw [g6] at e2; subst e2; have hc2 := bcell hb2; have hz2 : w.heap.size < w2.heap.size := (by have := hb2.size; omega)))
    go_ret
    exact ⟨ret_int HF.out.symm, bon (bon hal hb1) hb2⟩
  | true =>
  have h1 : namedB p = true := by rw [HND2.out, g5, g6]; rfl
  by_cases h2 : 40000 < p.rules.length
  · have HF : Hid (validE p = 171) := Lib.hid (by simp [validE, h1, h2])
    clear h1
    go_enter Tryz.func34, Tryz.ntmps34
    go_wp2_with (first | (go_at_call 80; (with_reducible refine (names_ref _ _ _ HN.out).mono ?_); rintro e w1 ⟨e1, hb1⟩; rw [g5] at e1; subst e1; have hc1 := bcell hb1; have hz1 : w.heap.size < w1.heap.size := (by have := hb1.size; simp at this; omega)) | (go_at_call 55; (with_reducible refine (atoms_ref _ _ p.n _ (HS.out.below hb1)).mono ?_); rintro e w2 ⟨e2, hb2⟩; rw [g6] at e2; subst e2; have hc2 := bcell hb2; have hz2 : w.heap.size < w2.heap.size := (by have := hb2.size; omega)))
    go_ret
    exact ⟨ret_int HF.out.symm, bon (bon hal hb1) hb2⟩
  have HF : Hid (validE p = if rulesE p.rules p.n ≠ 0 then rulesE p.rules p.n else if 8 < p.min.length then 175 else if minsB p.min p.n = false then 175 else 0) := Lib.hid (by simp [validE, h1, h2])
  have hn4 : 0 ≤ p.n ∧ p.n ≤ 4000 := by omega
  clear h1
  go_enter Tryz.func34, Tryz.ntmps34
  go_wp2_with (first | (go_at_call 80; (with_reducible refine (names_ref _ _ _ HN.out).mono ?_); rintro e w1 ⟨e1, hb1⟩; rw [g5] at e1; subst e1; have hc1 := bcell hb1; have hz1 : w.heap.size < w1.heap.size := (by have := hb1.size; simp at this; omega)) | (go_at_call 55; (with_reducible refine (atoms_ref _ _ p.n _ (HS.out.below hb1)).mono ?_); rintro e w2 ⟨e2, hb2⟩; rw [g6] at e2; subst e2; have hc2 := bcell hb2; have hz2 : w.heap.size < w2.heap.size := (by have := hb2.size; omega)))
  have hb12 := bon hb1 hb2
  clear hb1 hb2
  obtain ⟨W, hW⟩ : ∃ W, W = (w.alloc (.cells #[.int .i64 p.n, .slice a0 p.names.length c0, .slice a9 p.shown.length c9, .slice a1 p.rules.length c1, .slice a2 p.min.length c2] 27)) := ⟨_, rfl⟩
  go_loopw [3] (VRel1 p.rules p.n W) (fun i _ => p.rules.length - (intOf i).toNat)
  case atStart => exact ⟨0, by omega, rfl, fun j hj => absurd hj (Nat.not_lt_zero _), by rw [hW]; exact hb12⟩
  case round =>
    obtain ⟨k, hk, rfl, hok, hb⟩ := hrel
    have HOK := Lib.hid hok
    clear hok
    have hsW : w.heap.size < W.heap.size := by rw [hW]; simp
    have hsr : w.heap.size < wr.heap.size := Nat.lt_of_lt_of_le hsW hb.size
    have q0 : wr.cell? ⟨w.heap.size, 0, none⟩ = some (.int .i64 p.n) := by rw [bcell hb _ _ hsW, hW]; go_simp
    have q3 : wr.cell? ⟨w.heap.size, 4, none⟩ = some (.slice a2 p.min.length c2) := by rw [bcell hb _ _ hsW, hW]; go_simp
    have q2 : wr.cell? ⟨w.heap.size, 3, none⟩ = some (.slice a1 p.rules.length c1) := by rw [bcell hb _ _ hsW, hW]; go_simp
    clear hc1 hc2 hb12 HN HS
    rw [← hW] at hal
    have hbw := bon hal hb
    clear hW
    by_cases hlt : k < p.rules.length
    · obtain ⟨b, off, rfl, hbl, hc⟩ := hcell (by omega)
      obtain ⟨vh, vb, vw, hcc, hsl⟩ := hc k hlt
      obtain ⟨r0, r1, r2, r3, r4, r5⟩ := hcc.below hbw hbl
      have HS := Lib.hid (hsl.below hbw)
      obtain ⟨a3, c3, rfl, -, hl3, -, -⟩ := hsl.head.form
      obtain ⟨a4, c4, rfl, -, hl4, -, -⟩ := hsl.body.form
      obtain ⟨a5, c5, rfl, -, hl5, -, -⟩ := hsl.wts.form
      have hbr := Nat.lt_of_lt_of_le hbl hbw.size
      have HR : Hid (∀ e : Ext wr, RuleIs e.world (.agg #[.bool (ixR p.rules k).choice, .slice a3 (ixR p.rules k).head.length c3, .bool (ixR p.rules k).sum, .int .i64 (ixR p.rules k).bound, .slice a4 (ixR p.rules k).body.length c4, .slice a5 (ixR p.rules k).w.length c5]) (ixR p.rules k)) := Lib.hid (fun e => ⟨_, _, _, rfl, HS.out.below e.below⟩)
      have x0 : ∀ e : Ext wr, e.world.cell? ⟨w.heap.size, 0, none⟩ = some (.int .i64 p.n) := fun e => (bcell e.below _ _ hsr).trans q0
      have x1 : ∀ e : Ext wr, e.world.cell? ⟨w.heap.size, 3, none⟩ = some (.slice (some ⟨b, off, none⟩) p.rules.length c1) := fun e => (bcell e.below _ _ hsr).trans q2
      have s0 : ∀ e : Ext wr, e.world.cell? ⟨b, off + k * 6, none⟩ = _ := fun e => (bcell e.below _ _ hbr).trans r0
      have s1 : ∀ e : Ext wr, e.world.cell? ⟨b, off + k * 6 + 1, none⟩ = _ := fun e => (bcell e.below _ _ hbr).trans r1
      have s2 : ∀ e : Ext wr, e.world.cell? ⟨b, off + k * 6 + 2, none⟩ = _ := fun e => (bcell e.below _ _ hbr).trans r2
      have s3 : ∀ e : Ext wr, e.world.cell? ⟨b, off + k * 6 + 3, none⟩ = _ := fun e => (bcell e.below _ _ hbr).trans r3
      have s4 : ∀ e : Ext wr, e.world.cell? ⟨b, off + k * 6 + 4, none⟩ = _ := fun e => (bcell e.below _ _ hbr).trans r4
      have s5 : ∀ e : Ext wr, e.world.cell? ⟨b, off + k * 6 + 5, none⟩ = _ := fun e => (bcell e.below _ _ hbr).trans r5
      have hnI : InI p.n := by unfold InI; omega
      clear hc hcell hcc hsl r0 r1 r2 r3 r4 r5
      by_cases hz : ruleE (ixR p.rules k) p.n = 0
      · have hz1 : (ruleE (ixR p.rules k) p.n == 0) = true := by simp [hz]
        have hz2 : (ruleE (ixR p.rules k) p.n != 0) = false := by simp [hz]
        have HZ := Lib.hid hz
        clear hz
        go_wp2
        refine wp_region_ext (by kernel_rfl) (by kernel_rfl) ?_
        repeat (go_big_quiet_step ((first | (go_at_call 81; exact Calls.ext_of (rule_ref _ _ _ _ (HR.out _) hnI)))))
        refine wpQuiet_nil ?_
        intro _ hw'
        obtain ⟨⟨w9, hb9⟩, rfl⟩ := hw'
        try dsimp only
        go_wp2
        first
          | (go_roundw
             case rel => (exact ⟨k + 1, by omega, by go_num, lt_succ_all HOK.out HZ.out, bon hb hb9⟩)
             case measure => (simp [intOf]; omega))
          | (refine ⟨?_, ?_⟩
             · (exact ⟨k + 1, by omega, by go_num, lt_succ_all HOK.out HZ.out, bon hb hb9⟩)
             · (simp [intOf]; omega))
      · have hz1 : (ruleE (ixR p.rules k) p.n == 0) = false := by simp [hz]
        have hz2 : (ruleE (ixR p.rules k) p.n != 0) = true := by simp [hz]
        have HZ := Lib.hid hz
        clear hz
        go_wp2
        refine wp_region_ext (by kernel_rfl) (by kernel_rfl) ?_
        repeat (go_big_quiet_step ((first | (go_at_call 81; exact Calls.ext_of (rule_ref _ _ _ _ (HR.out _) hnI)))))
        refine wpQuiet_nil ?_
        intro _ hw'
        obtain ⟨⟨w9, hb9⟩, rfl⟩ := hw'
        try dsimp only
        go_wp2
        go_ret
        refine ⟨ret_int ?_, bon hbw hb9⟩
        have e1 : rulesE p.rules p.n = ruleE (ixR p.rules k) p.n := by
          rw [rulesFrom_split p.rules p.n k hk HOK.out, show p.rules.length - k = (p.rules.length - k - 1) + 1 by omega, rulesFrom, if_pos HZ.out]
        rw [HF.out, e1, if_pos HZ.out]
    · have e1 : rulesE p.rules p.n = 0 := by
        rw [rulesFrom_split p.rules p.n k hk HOK.out, show p.rules.length - k = 0 by omega]; rfl
      rw [e1] at HF
      by_cases h3 : 8 < p.min.length
      · go_wp2
        go_ret
        exact ⟨ret_int (by rw [HF.out]; simp [h3]), hbw⟩
      go_wp2
      clear HOK hlt hk e1
      have HBW := Lib.hid hbw
      clear hbw hb hal
      obtain ⟨wo, hwo⟩ : ∃ wo : World, wo = wr := ⟨_, rfl⟩
      rw [← hwo] at q0 q3 hsr HBW ⊢
      clear hwo
      go_loopw [5] (VRel2 p.min p.n wo) (fun i _ => p.min.length - (intOf i).toNat)
      case atStart => exact ⟨0, by omega, rfl, fun j hj => absurd hj (Nat.not_lt_zero _), Below.refl _ _⟩
      case round =>
        obtain ⟨k, hk, rfl, hok, hb⟩ := hrel
        have HOK := Lib.hid hok
        clear hok
        have hbw := bon HBW.out hb
        replace q0 := (bcell hb _ _ hsr).trans q0
        replace q3 := (bcell hb _ _ hsr).trans q3
        have hsr2 := Nat.lt_of_lt_of_le hsr hb.size
        by_cases hlt : k < p.min.length
        · obtain ⟨b, off, rfl, hbl, hc⟩ := hmcell (by omega)
          obtain ⟨vl, vw, hcc, hsl⟩ := hc k hlt
          obtain ⟨vl', vw', hcc', hsl'⟩ := hc (k - 1) (by omega)
          obtain ⟨m0, m1, m2⟩ := hcc.below hbw hbl
          obtain ⟨m0', -, -⟩ := hcc'.below hbw hbl
          have HS := Lib.hid (hsl.below hbw)
          obtain ⟨a3, c3, rfl, -, hl3, -, -⟩ := hsl.lits.form
          obtain ⟨a4, c4, rfl, -, hl4, -, -⟩ := hsl.wts.form
          have hlv := hsl.level
          have hlv' := hsl'.level
          unfold InI at hlv hlv'
          have hbr := Nat.lt_of_lt_of_le hbl hbw.size
          obtain ⟨W2, hW2⟩ : ∃ W2, W2 = wr.alloc (.cells #[.int .i64 (ixM p.min k).level, .slice a3 (ixM p.min k).lits.length c3, .slice a4 (ixM p.min k).w.length c4] 67) := ⟨_, rfl⟩
          have hbx : Below wr.heap.size wr W2 := by rw [hW2]; exact bal (Below.refl _ _) _
          have hz2 : wr.heap.size < W2.heap.size := by rw [hW2]; simp
          have HL : Hid (∀ e : Ext W2, Ints e.world (.slice a3 (ixM p.min k).lits.length c3) (ixM p.min k).lits) := Lib.hid (fun e => HS.out.lits.below (bon hbx e.below))
          have HW2 : Hid (∀ e : Ext W2, Ints e.world (.slice a4 (ixM p.min k).w.length c4) (ixM p.min k).w) := Lib.hid (fun e => HS.out.wts.below (bon hbx e.below))
          have x0 : ∀ e : Ext W2, e.world.cell? ⟨w.heap.size, 0, none⟩ = some (.int .i64 p.n) := fun e => (bcell (bon hbx e.below) _ _ hsr2).trans q0
          have x1 : ∀ e : Ext W2, e.world.cell? ⟨w.heap.size, 4, none⟩ = some (.slice (some ⟨b, off, none⟩) p.min.length c2) := fun e => (bcell (bon hbx e.below) _ _ hsr2).trans q3
          have x2 : ∀ e : Ext W2, e.world.cell? ⟨wr.heap.size, 0, none⟩ = some (.int .i64 (ixM p.min k).level) := fun e => (bcell e.below _ _ hz2).trans (by rw [hW2]; go_simp)
          have x3 : ∀ e : Ext W2, e.world.cell? ⟨wr.heap.size, 1, none⟩ = some (.slice a3 (ixM p.min k).lits.length c3) := fun e => (bcell e.below _ _ hz2).trans (by rw [hW2]; go_simp)
          have x4 : ∀ e : Ext W2, e.world.cell? ⟨wr.heap.size, 2, none⟩ = some (.slice a4 (ixM p.min k).w.length c4) := fun e => (bcell e.below _ _ hz2).trans (by rw [hW2]; go_simp)
          have x5 : ∀ e : Ext W2, e.world.cell? ⟨b, off + (k - 1) * 3, none⟩ = some (.int .i64 (ixM p.min (k - 1)).level) := fun e => (bcell (bon hbx e.below) _ _ hbr).trans m0'
          clear hc hmcell hcell hcc hcc' hsl hsl' m0'
          have hW2' := hW2.symm
          clear hW2
          have hbad : minAt p.min p.n k = false → Hid (validE p = 175) := fun h => Lib.hid (by rw [HF.out, minsB, allR_false k hlt h]; simp)
          have hmk : minAt p.min p.n k = (orderedB (ixM p.min k).lits p.n && weightsB (ixM p.min k).w (ixM p.min k).lits.length && decide (-2147483647 ≤ (ixM p.min k).level ∧ (ixM p.min k).level ≤ 2147483647) && (k == 0 || decide ((ixM p.min k).level < (ixM p.min (k - 1)).level))) := rfl
          have HMK := Lib.hid hmk
          have HBAD := Lib.hid hbad
          clear hmk hbad
          have hbw2 := fun (w9 : World) (hb9 : Below W2.heap.size W2 w9) => bon hbw (bon hbx hb9)
          have HFIN := Lib.hid hbw2
          have HFIN2 : Hid (∀ w9 : World, Below W2.heap.size W2 w9 → Below wo.heap.size wo w9) := Lib.hid (fun w9 hb9 => bon hb (bon hbx hb9))
          clear hbw2
          have HLT0 : Hid (∀ e : Ext W2, Calls Tryz.prog 82 #[.slice a3 (ixM p.min k).lits.length c3, .int .i64 p.n] e.world fun x w' => x = .returned (.bool (orderedB (ixM p.min k).lits p.n)) ∧ Below e.world.heap.size e.world w') := Lib.hid (fun e => lits_ref _ _ _ _ (HL.out e) hn4)
          have HTT0 : Hid (∀ e : Ext W2, Calls Tryz.prog 83 #[.slice a4 (ixM p.min k).w.length c4, .int .i64 1] e.world fun x w' => x = .returned (.int .i64 (totI (ixM p.min k).w)) ∧ e.world = w') := Lib.hid (fun e => total_def _ _ _ (HW2.out e))
          clear HL HW2
          cases g1 : orderedB (ixM p.min k).lits p.n with
          | false =>
            have HB := HBAD.out (by rw [HMK.out, g1]; rfl)
            rw [g1] at HLT0
            have HLT := HLT0
            go_wp2
            refine wp_region_ext (by kernel_rfl) (by kernel_rfl) ?_
            repeat (go_big_quiet_step ((first | (go_at_call 82; exact Calls.ext_of (HLT.out _)) | (go_at_call 83; exact Calls.ext_of_same (HTT.out _)))))
            refine wpQuiet_nil ?_
            intro _ hw'
            obtain ⟨⟨w9, hb9⟩, rfl⟩ := hw'
            try dsimp only
            go_wp2
            go_ret
            exact ⟨ret_int HB.out.symm, HFIN.out _ hb9⟩
          | true =>
          rw [g1] at HLT0
          have HLT := HLT0
          by_cases g7 : (ixM p.min k).w.length = (ixM p.min k).lits.length
          case neg =>
            have g7' : (((ixM p.min k).w.length : Int) != ((ixM p.min k).lits.length : Int)) = true := by simp; omega
            have HB := HBAD.out (by
              have : weightsB (ixM p.min k).w (ixM p.min k).lits.length = false := by
                unfold weightsB
                rw [show decide (((ixM p.min k).w.length : Int) = ((ixM p.min k).lits.length : Int)) = false from decide_eq_false (by omega)]; simp
              rw [HMK.out, g1, this]; rfl)
            clear g7
            go_wp2
            refine wp_region_ext (by kernel_rfl) (by kernel_rfl) ?_
            repeat (go_big_quiet_step ((first | (go_at_call 82; exact Calls.ext_of (HLT.out _)) | (go_at_call 83; exact Calls.ext_of_same (HTT.out _)))))
            refine wpQuiet_nil ?_
            intro _ hw'
            obtain ⟨⟨w9, hb9⟩, rfl⟩ := hw'
            try dsimp only
            go_wp2
            go_ret
            exact ⟨ret_int HB.out.symm, HFIN.out _ hb9⟩
          have g7' : (((ixM p.min k).w.length : Int) != ((ixM p.min k).lits.length : Int)) = false := by simp [g7]
          cases g2 : weightsB (ixM p.min k).w (ixM p.min k).lits.length with
          | false =>
            have HB := HBAD.out (by rw [HMK.out, g1, g2]; rfl)
            have ht : totI (ixM p.min k).w = -1 := by unfold totI; rw [g7, g2]; rfl
            rw [ht] at HTT0
            have HTT := HTT0
            clear g7 ht
            go_wp2
            refine wp_region_ext (by kernel_rfl) (by kernel_rfl) ?_
            repeat (go_big_quiet_step ((first | (go_at_call 82; exact Calls.ext_of (HLT.out _)) | (go_at_call 83; exact Calls.ext_of_same (HTT.out _)))))
            refine wpQuiet_nil ?_
            intro _ hw'
            obtain ⟨⟨w9, hb9⟩, rfl⟩ := hw'
            try dsimp only
            go_wp2
            go_ret
            exact ⟨ret_int HB.out.symm, HFIN.out _ hb9⟩
          | true =>
          have ht : 0 ≤ totI (ixM p.min k).w := totI_pos (by rw [g7]; exact g2)
          have ht' : decide (totI (ixM p.min k).w < 0) = false := decide_eq_false (by omega)
          have HTT := HTT0
          clear g7
          by_cases g3 : (ixM p.min k).level < -2147483647
          · have HB := HBAD.out (by rw [HMK.out, g1, g2]; simp; omega)
            go_wp2
            refine wp_region_ext (by kernel_rfl) (by kernel_rfl) ?_
            repeat (go_big_quiet_step ((first | (go_at_call 82; exact Calls.ext_of (HLT.out _)) | (go_at_call 83; exact Calls.ext_of_same (HTT.out _)))))
            refine wpQuiet_nil ?_
            intro _ hw'
            obtain ⟨⟨w9, hb9⟩, rfl⟩ := hw'
            try dsimp only
            go_wp2
            go_ret
            exact ⟨ret_int HB.out.symm, HFIN.out _ hb9⟩
          have g3' : decide ((ixM p.min k).level < -2147483647) = false := by simp; omega
          by_cases g4 : 2147483647 < (ixM p.min k).level
          · have HB := HBAD.out (by rw [HMK.out, g1, g2]; simp; omega)
            go_wp2
            refine wp_region_ext (by kernel_rfl) (by kernel_rfl) ?_
            repeat (go_big_quiet_step ((first | (go_at_call 82; exact Calls.ext_of (HLT.out _)) | (go_at_call 83; exact Calls.ext_of_same (HTT.out _)))))
            refine wpQuiet_nil ?_
            intro _ hw'
            obtain ⟨⟨w9, hb9⟩, rfl⟩ := hw'
            try dsimp only
            go_wp2
            go_ret
            exact ⟨ret_int HB.out.symm, HFIN.out _ hb9⟩
          have g4' : decide (2147483647 < (ixM p.min k).level) = false := by simp; omega
          have g34 : decide (-2147483647 ≤ (ixM p.min k).level ∧ (ixM p.min k).level ≤ 2147483647) = true := by simp; omega
          by_cases hk0 : k = 0
          · have hkp : decide (0 < k) = false := by simp; omega
            have HZ : Hid (minAt p.min p.n k = true) := Lib.hid (by rw [HMK.out, g1, g2, g34, hk0]; rfl)
            clear hk0 g34
            go_wp2
            refine wp_region_ext (by kernel_rfl) (by kernel_rfl) ?_
            repeat (go_big_quiet_step ((first | (go_at_call 82; exact Calls.ext_of (HLT.out _)) | (go_at_call 83; exact Calls.ext_of_same (HTT.out _)))))
            refine wpQuiet_nil ?_
            intro _ hw'
            obtain ⟨⟨w9, hb9⟩, rfl⟩ := hw'
            try dsimp only
            go_wp2
            first
              | (go_roundw
                 case rel => (exact ⟨k + 1, by omega, by go_num, lt_succ_all HOK.out HZ.out, HFIN2.out _ hb9⟩)
                 case measure => (simp [intOf]; omega))
              | (refine ⟨?_, ?_⟩
                 · (exact ⟨k + 1, by omega, by go_num, lt_succ_all HOK.out HZ.out, HFIN2.out _ hb9⟩)
                 · (simp [intOf]; omega))
          have hkp : decide (0 < k) = true := by simp; omega
          have hkq : (0 : Int) < (k : Int) := by omega
          have hkn : (0 : Int) ≤ (k : Int) - 1 := by omega
          have hkm : ((k : Int) - 1).toNat = k - 1 := by omega
          have hkb : (k == 0) = false := by simp [hk0]
          by_cases g5 : (ixM p.min (k - 1)).level ≤ (ixM p.min k).level
          · have HB := HBAD.out (by rw [HMK.out, g1, g2, g34, hkb]; simp; omega)
            clear g34 hkb
            go_wp2
            refine wp_region_ext (by kernel_rfl) (by kernel_rfl) ?_
            repeat (go_big_quiet_step ((first | (go_at_call 82; exact Calls.ext_of (HLT.out _)) | (go_at_call 83; exact Calls.ext_of_same (HTT.out _)))))
            refine wpQuiet_nil ?_
            intro _ hw'
            obtain ⟨⟨w9, hb9⟩, rfl⟩ := hw'
            try dsimp only
            go_wp2
            go_ret
            exact ⟨ret_int HB.out.symm, HFIN.out _ hb9⟩
          · have g5' : decide ((ixM p.min (k - 1)).level ≤ (ixM p.min k).level) = false := by simp; omega
            have HZ : Hid (minAt p.min p.n k = true) := Lib.hid (by rw [HMK.out, g1, g2, g34, hkb]; simp; omega)
            clear g34 hkb
            go_wp2
            refine wp_region_ext (by kernel_rfl) (by kernel_rfl) ?_
            repeat (go_big_quiet_step ((first | (go_at_call 82; exact Calls.ext_of (HLT.out _)) | (go_at_call 83; exact Calls.ext_of_same (HTT.out _)))))
            refine wpQuiet_nil ?_
            intro _ hw'
            obtain ⟨⟨w9, hb9⟩, rfl⟩ := hw'
            try dsimp only
            go_wp2
            first
              | (go_roundw
                 case rel => (exact ⟨k + 1, by omega, by go_num, lt_succ_all HOK.out HZ.out, HFIN2.out _ hb9⟩)
                 case measure => (simp [intOf]; omega))
              | (refine ⟨?_, ?_⟩
                 · (exact ⟨k + 1, by omega, by go_num, lt_succ_all HOK.out HZ.out, HFIN2.out _ hb9⟩)
                 · (simp [intOf]; omega))
        · have HL2 : Hid (k = p.min.length) := Lib.hid (by omega)
          have HE : Hid (validE p = 0) := Lib.hid (by rw [HF.out, minsB, allR_true (by rw [← HL2.out]; exact HOK.out)]; simp [h3])
          go_wp2
          go_ret
          exact ⟨ret_int HE.out.symm, hbw⟩
def RnIn (l : List Int) (x : Int) (i : Value) : Prop := ∃ k, k ≤ l.length ∧ i = .int .i64 k ∧ ∀ j, j < k → ix l j ≠ x
set_option maxHeartbeats 1000000 in
theorem in17_any (v : Value) (l : List Int) (x : Int) (w : World) (h : Ints w v l) :
    Calls Tryz.prog 53 #[v, .int .i64 x] w fun e w' => e = .returned (.bool (decide (x ∈ l))) ∧ w = w' := by
  obtain ⟨a1, c1, rfl, -, hl1, -, hc1⟩ := h.form
  have HC1 := Lib.hid hc1
  clear h hc1
  go_enter Tryz.func53, Tryz.ntmps53
  go_wp2
  go_loop [5] (fun i => RnIn l x i) (fun i => l.length - (intOf i).toNat)
  case atStart => exact ⟨0, Nat.zero_le _, rfl, fun j hj => absurd hj (Nat.not_lt_zero _)⟩
  case round =>
    obtain ⟨k, hk, rfl, hall⟩ := hrel
    have HA := Lib.hid hall
    clear hall
    by_cases hlt : k < l.length
    · obtain ⟨b, off, rfl, hbl, hc⟩ := HC1.out (by omega)
      have hk1 := hc k hlt
      clear hc
      by_cases he : ix l k = x
      · have heb : (ix l k == x) = true := by simp [he]
        have HM : Hid (decide (x ∈ l) = true) := Lib.hid (decide_eq_true (he ▸ ix_mem hlt))
        clear he
        go_wp2
        go_ret
        exact ⟨ret_bool HM.out.symm, rfl⟩
      · have heb : (ix l k == x) = false := by simp [he]
        have HN : Hid (∀ j, j < k + 1 → ix l j ≠ x) := Lib.hid fun j hj => by
          rcases Nat.lt_succ_iff_lt_or_eq.1 hj with h1 | rfl
          · exact HA.out j h1
          · exact he
        clear he
        go_wp2
        first
          | (go_round
             case rel => (exact ⟨k + 1, by omega, by go_num, HN.out⟩)
             case measure => (simp [intOf]; omega))
          | (refine ⟨?_, ?_⟩
             · (exact ⟨k + 1, by omega, by go_num, HN.out⟩)
             · (simp [intOf]; omega))
    · obtain rfl : k = l.length := by omega
      have HM : Hid (decide (x ∈ l) = false) := Lib.hid (decide_eq_false fun hx => by
        obtain ⟨j, hj, e⟩ := mem_ix.1 hx
        exact HA.out j hj e)
      go_wp2
      go_ret
      exact ⟨ret_bool HM.out.symm, rfl⟩
theorem in17_call {v : Value} {l : List Int} {x : Int} {b : Bool} {w : World} (hb : decide (x ∈ l) = b) (h : Ints w v l) :
    Calls Tryz.prog 53 #[v, .int .i64 x] w fun e w' => e = .returned (.bool b) ∧ w = w' := by
  have := in17_any v l x w h
  rwa [hb] at this
theorem set19_any (v : Value) (m : List Int) (n : Int) (w : World) (h : Ints w v m) :
    Calls Tryz.prog 35 #[v, .int .i64 n] w fun e w' => e = .returned (.bool (increasingB m n)) ∧ Below w.heap.size w w' := by
  obtain ⟨a1, c1, rfl, -⟩ := id h.form
  have H := Lib.hid h
  clear h
  go_enter Tryz.func35, Tryz.ntmps35
  go_wp2_with (go_at_call 55; (with_reducible refine (atoms_ref _ m n w H.out).mono ?_); rintro e w1 ⟨rfl, hb1⟩)
  go_ret
  exact ⟨rfl, hb1⟩
theorem inc_set {m : List Int} {n : Int} : increasingB m n = setQ n m := by
  rw [atoms_increasing]
  rfl
set_option maxHeartbeats 1000000 in
theorem true19_any (v : Value) (m : List Int) (x : Int) (w : World) (h : Ints w v m) (hx : -9223372036854775808 < x ∧ x ≤ 9223372036854775807) :
    Calls Tryz.prog 58 #[.int .i64 x, v] w fun e w' => e = .returned (.bool (litT m x)) ∧ w = w' := by
  obtain ⟨a1, c1, rfl, -⟩ := id h.form
  have H := Lib.hid h
  clear h
  by_cases hp : 0 < x
  · have HL : Hid (litT m x = decide (x ∈ m)) := Lib.hid (by unfold litT; rw [if_pos hp])
    go_enter Tryz.func58, Tryz.ntmps58
    go_wp2_with (go_at_call 53; (with_reducible refine (in17_any _ m x w H.out).mono ?_); rintro e w1 ⟨rfl, rfl⟩)
    go_ret
    exact ⟨ret_bool HL.out.symm, rfl⟩
  · have HL : Hid (litT m x = !decide (-x ∈ m)) := Lib.hid (by unfold litT; rw [if_neg hp])
    obtain ⟨y, hy⟩ : ∃ y, -x = y := ⟨_, rfl⟩
    rw [hy] at HL
    go_enter Tryz.func58, Tryz.ntmps58
    go_wp2_with (go_at_call 53; (with_reducible refine (in17_any _ m y w H.out).mono ?_); rintro e w1 ⟨rfl, rfl⟩)
    go_ret
    exact ⟨ret_bool HL.out.symm, rfl⟩
theorem true19_call {v : Value} {m : List Int} {x : Int} {b : Bool} {w : World} (hb : litT m x = b) (h : Ints w v m) (hx : -9223372036854775808 < x ∧ x ≤ 9223372036854775807) :
    Calls Tryz.prog 58 #[.int .i64 x, v] w fun e w' => e = .returned (.bool b) ∧ w = w' := by
  have := true19_any v m x w h hx
  rwa [hb] at this
def missN (m : List Int) (r : GR) : Nat → Nat
  | 0 => 0
  | k + 1 => missN m r k + if litT m (ix r.body k) then 0 else 1
theorem missN_le (m : List Int) (r : GR) : ∀ k, missN m r k ≤ k
  | 0 => Nat.le_refl _
  | k + 1 => by have := missN_le m r k; unfold missN; split <;> omega
theorem missN_zero (m : List Int) (r : GR) : ∀ k, decide (missN m r k = 0) = allR k (fun j => litT m (ix r.body j))
  | 0 => rfl
  | k + 1 => by
    rw [allR_succ, ← missN_zero m r k, show missN m r (k + 1) = missN m r k + if litT m (ix r.body k) then 0 else 1 from rfl]
    cases litT m (ix r.body k) <;> simp
def Bd19Rel (m : List Int) (r : GR) (W : World) (s q i : Value) (wx : World) : Prop := ∃ k : Nat, k ≤ r.body.length ∧ i = .int .i64 k ∧ s = .int .i64 (if r.sum then wsum m r k else 0) ∧ q = .int .i64 (missN m r k : Nat) ∧ Below W.heap.size W wx
set_option maxHeartbeats 4000000 in
set_option maxRecDepth 100000 in
theorem body19_any (v vm : Value) (r : GR) (m : List Int) (w : World) (hr : RuleIs w v r) (hm : Ints w vm m) (hok : BodyOk r) :
    Calls Tryz.prog 57 #[v, vm] w fun e w' => e = .returned (.bool (bodyT r m)) ∧ Below w.heap.size w w' := by
  obtain ⟨vh, vb, vw, rfl, hsl⟩ := hr
  have hal := bal (Below.refl w.heap.size w) (.cells #[.bool r.choice, vh, .bool r.sum, .int .i64 r.bound, vb, vw] 64)
  obtain ⟨a1, c1, rfl, -, hl1, -, -⟩ := hsl.head.form
  obtain ⟨a2, c2, rfl, -, hl2, -, -⟩ := hsl.body.form
  obtain ⟨a3, c3, rfl, -, hl3, -, -⟩ := hsl.wts.form
  obtain ⟨am, cm, rfl, -⟩ := id hm.form
  have HB := Lib.hid (hsl.body.below hal)
  have HW := Lib.hid (hsl.wts.below hal)
  have HM := Lib.hid (hm.below hal)
  have hbd := hsl.bound
  unfold InI at hbd
  have HBX := Lib.hid (Blk.new w [.bool r.choice, .slice a1 r.head.length c1, .bool r.sum, .int .i64 r.bound, .slice a2 r.body.length c2, .slice a3 r.w.length c3] 64)
  have hlen := hok.len
  have HLT : Hid (∀ j, j < r.body.length → -9223372036854775808 < ix r.body j ∧ ix r.body j ≤ 9223372036854775807) := Lib.hid (fun j hj => ⟨hok.lit j hj, (hsl.body.2 j).2⟩)
  have HWB : Hid (r.sum = true → ∀ k, k ≤ r.body.length → 0 ≤ wsum m r k ∧ wsum m r k ≤ 1048576 * k) := Lib.hid (fun hs k hk => wsum_bound hok hs k hk)
  have HWL : Hid (r.sum = true → r.w.length = r.body.length) := Lib.hid hok.wlen
  have HWV : Hid (r.sum = true → ∀ j, j < r.w.length → 0 ≤ ix r.w j ∧ ix r.w j ≤ 1048576) := Lib.hid hok.w
  have HAL := Lib.hid hal
  clear hsl hm hal hok
  go_enter Tryz.func57, Tryz.ntmps57
  go_upto_region 1 with fail
  have kx := HBX.out.cell
  generalize w.alloc (.cells #[.bool r.choice, .slice a1 r.head.length c1, .bool r.sum, .int .i64 r.bound, .slice a2 r.body.length c2, .slice a3 r.w.length c3] 64) = W at *
  have HF : Hid (bodyT r m = if r.sum then decide (r.bound ≤ wsum m r r.body.length) else allR r.body.length (fun j => litT m (ix r.body j))) := Lib.hid rfl
  cases hs : r.sum with
  | false =>
    rw [hs] at kx HF HBX
    have HS := Lib.hid hs
    clear hs
    go_wp2
    go_loopw [5, 6, 7] (fun s q i wx => Bd19Rel m r W s q i wx) (fun _ _ i _ => r.body.length - (intOf i).toNat)
    case atStart => exact ⟨0, Nat.zero_le _, rfl, by rw [HS.out]; rfl, rfl, Below.refl _ _⟩
    case round =>
      obtain ⟨k, hk, rfl, rfl, rfl, hb⟩ := hrel
      rw [HS.out]
      simp only [Bool.false_eq_true, if_false]
      have kx1 := (HBX.out.below hb).cell
      have hmk := missN_le m r k
      have HBW := Lib.hid hb
      by_cases hlt : k < r.body.length
      · obtain ⟨b1, o1, rfl, hb1, hc1⟩ := (HB.out.below hb).at hlt
        have HLK := Lib.hid (HLT.out k hlt)
        cases hh : litT m (ix r.body k) with
        | true =>
          have HN : Hid (missN m r (k + 1) = missN m r k) := Lib.hid (by rw [missN, hh]; rfl)
          have HHH := Lib.hid hh
          clear hh
          go_wp2_with (go_at_call 58; (with_reducible refine (true19_call HHH.out (HM.out.below HBW.out) HLK.out).mono ?_); rintro e w1 ⟨rfl, rfl⟩)
          first
            | (go_roundw
               case rel => (exact ⟨k + 1, by omega, by go_num, by rw [HS.out]; rfl, by rw [HN.out], HBW.out⟩)
               case measure => (simp [intOf]; omega))
            | (refine ⟨?_, ?_⟩
               · (exact ⟨k + 1, by omega, by go_num, by rw [HS.out]; rfl, by rw [HN.out], HBW.out⟩)
               · (simp [intOf]; omega))
        | false =>
          have HN : Hid (missN m r (k + 1) = missN m r k + 1) := Lib.hid (by rw [missN, hh]; simp)
          have HHH := Lib.hid hh
          clear hh
          go_wp2_with (go_at_call 58; (with_reducible refine (true19_call HHH.out (HM.out.below HBW.out) HLK.out).mono ?_); rintro e w1 ⟨rfl, rfl⟩)
          first
            | (go_roundw
               case rel => (exact ⟨k + 1, by omega, by go_num, by rw [HS.out]; rfl, by rw [HN.out]; go_num, HBW.out⟩)
               case measure => (simp [intOf]; omega))
            | (refine ⟨?_, ?_⟩
               · (exact ⟨k + 1, by omega, by go_num, by rw [HS.out]; rfl, by rw [HN.out]; go_num, HBW.out⟩)
               · (simp [intOf]; omega))
      · obtain rfl : k = r.body.length := by omega
        have HZ : Hid (bodyT r m = decide (missN m r r.body.length = 0)) := Lib.hid (by rw [HF.out, missN_zero]; rfl)
        by_cases h0 : missN m r r.body.length = 0
        · have h0b : (((missN m r r.body.length : Nat) : Int) == 0) = true := by simp [h0]
          rw [decide_eq_true h0] at HZ
          go_wp2
          go_ret
          exact ⟨ret_bool HZ.out.symm, bon HAL.out HBW.out⟩
        · have h0b : (((missN m r r.body.length : Nat) : Int) == 0) = false := by simp only [beq_eq_false_iff_ne, ne_eq]; omega
          rw [decide_eq_false h0] at HZ
          go_wp2
          go_ret
          exact ⟨ret_bool HZ.out.symm, bon HAL.out HBW.out⟩
  | true =>
    rw [hs] at kx HF HBX
    have HS := Lib.hid hs
    have HWB2 := Lib.hid (HWB.out hs)
    have HWL2 := Lib.hid (HWL.out hs)
    have HWV2 := Lib.hid (HWV.out hs)
    clear hs
    go_wp2
    go_loopw [5, 6, 7] (fun s q i wx => Bd19Rel m r W s q i wx) (fun _ _ i _ => r.body.length - (intOf i).toNat)
    case atStart => exact ⟨0, Nat.zero_le _, rfl, by rw [HS.out]; rfl, rfl, Below.refl _ _⟩
    case round =>
      obtain ⟨k, hk, rfl, rfl, rfl, hb⟩ := hrel
      rw [HS.out]
      simp only [if_true]
      have kx1 := (HBX.out.below hb).cell
      have hmk := missN_le m r k
      have hwb := HWB2.out k hk
      have HBW := Lib.hid hb
      by_cases hlt : k < r.body.length
      · obtain ⟨b1, o1, rfl, hb1, hc1⟩ := (HB.out.below hb).at hlt
        have hltw : k < r.w.length := by have := HWL2.out; omega
        obtain ⟨b2, o2, rfl, hb2, hc2⟩ := (HW.out.below hb).at hltw
        have hwk := HWV2.out k hltw
        have HLK := Lib.hid (HLT.out k hlt)
        cases hh : litT m (ix r.body k) with
        | true =>
          have HN : Hid (missN m r (k + 1) = missN m r k) := Lib.hid (by rw [missN, hh]; rfl)
          have HNW : Hid (wsum m r (k + 1) = wsum m r k + ix r.w k) := Lib.hid (by rw [wsum, hh]; rfl)
          have HHH := Lib.hid hh
          clear hh
          go_wp2_with (go_at_call 58; (with_reducible refine (true19_call HHH.out (HM.out.below HBW.out) HLK.out).mono ?_); rintro e w1 ⟨rfl, rfl⟩)
          first
            | (go_roundw
               case rel => (exact ⟨k + 1, by omega, by go_num, by rw [HS.out, HNW.out]; rfl, by rw [HN.out], HBW.out⟩)
               case measure => (simp [intOf]; omega))
            | (refine ⟨?_, ?_⟩
               · (exact ⟨k + 1, by omega, by go_num, by rw [HS.out, HNW.out]; rfl, by rw [HN.out], HBW.out⟩)
               · (simp [intOf]; omega))
        | false =>
          have HN : Hid (missN m r (k + 1) = missN m r k + 1) := Lib.hid (by rw [missN, hh]; simp)
          have HNW : Hid (wsum m r (k + 1) = wsum m r k) := Lib.hid (by rw [wsum, hh]; simp)
          have HHH := Lib.hid hh
          clear hh
          go_wp2_with (go_at_call 58; (with_reducible refine (true19_call HHH.out (HM.out.below HBW.out) HLK.out).mono ?_); rintro e w1 ⟨rfl, rfl⟩)
          first
            | (go_roundw
               case rel => (exact ⟨k + 1, by omega, by go_num, by rw [HS.out, HNW.out]; rfl, by rw [HN.out]; go_num, HBW.out⟩)
               case measure => (simp [intOf]; omega))
            | (refine ⟨?_, ?_⟩
               · (exact ⟨k + 1, by omega, by go_num, by rw [HS.out, HNW.out]; rfl, by rw [HN.out]; go_num, HBW.out⟩)
               · (simp [intOf]; omega))
      · obtain rfl : k = r.body.length := by omega
        have HZ : Hid (bodyT r m = decide (r.bound ≤ wsum m r r.body.length)) := Lib.hid (by rw [HF.out]; rfl)
        go_wp2
        go_ret
        exact ⟨ret_bool HZ.out.symm, bon HAL.out HBW.out⟩
theorem body19_call {v vm : Value} {r : GR} {m : List Int} {b : Bool} {w : World} (hb : bodyT r m = b) (hr : RuleIs w v r) (hm : Ints w vm m) (hok : BodyOk r) :
    Calls Tryz.prog 57 #[v, vm] w fun e w' => e = .returned (.bool b) ∧ Below w.heap.size w w' := by
  have := body19_any v vm r m w hr hm hok
  rwa [hb] at this
def St19Rel (m : List Int) (r : GR) (W : World) (i : Value) (wx : World) : Prop := ∃ k : Nat, k ≤ r.head.length ∧ i = .int .i64 k ∧ (∀ j, j < k → ix r.head j ∉ m) ∧ Below W.heap.size W wx
set_option maxHeartbeats 4000000 in
set_option maxRecDepth 100000 in
theorem sat19_any (v vm : Value) (r : GR) (m : List Int) (w : World) (hr : RuleIs w v r) (hm : Ints w vm m) (hok : BodyOk r) :
    Calls Tryz.prog 84 #[v, vm] w fun e w' => e = .returned (.bool (satT r m)) ∧ Below w.heap.size w w' := by
  have hr0 := hr
  obtain ⟨vh, vb, vw, rfl, hsl⟩ := hr
  have hal := bal (Below.refl w.heap.size w) (.cells #[.bool r.choice, vh, .bool r.sum, .int .i64 r.bound, vb, vw] 64)
  obtain ⟨a1, c1, rfl, -, hl1, -, -⟩ := hsl.head.form
  obtain ⟨a2, c2, rfl, -, hl2, -, -⟩ := hsl.body.form
  obtain ⟨a3, c3, rfl, -, hl3, -, -⟩ := hsl.wts.form
  obtain ⟨am, cm, rfl, -⟩ := id hm.form
  have HR := Lib.hid (show RuleIs (w.alloc (.cells #[.bool r.choice, .slice a1 r.head.length c1, .bool r.sum, .int .i64 r.bound, .slice a2 r.body.length c2, .slice a3 r.w.length c3] 64)) (.agg #[.bool r.choice, .slice a1 r.head.length c1, .bool r.sum, .int .i64 r.bound, .slice a2 r.body.length c2, .slice a3 r.w.length c3]) r from ⟨_, _, _, rfl, hsl.below hal⟩)
  have HH := Lib.hid (hsl.head.below hal)
  have HM := Lib.hid (hm.below hal)
  have HBX := Lib.hid (Blk.new w [.bool r.choice, .slice a1 r.head.length c1, .bool r.sum, .int .i64 r.bound, .slice a2 r.body.length c2, .slice a3 r.w.length c3] 64)
  have HAL := Lib.hid hal
  have HOK := Lib.hid hok
  clear hr0 hsl hm hal hok
  go_enter Tryz.func84, Tryz.ntmps84
  go_upto_region 1 with fail
  have kx := HBX.out.cell
  generalize w.alloc (.cells #[.bool r.choice, .slice a1 r.head.length c1, .bool r.sum, .int .i64 r.bound, .slice a2 r.body.length c2, .slice a3 r.w.length c3] 64) = W at *
  have HF : Hid (satT r m = (r.choice || !bodyT r m || anyR r.head.length (fun j => decide (ix r.head j ∈ m)))) := Lib.hid rfl
  cases hc : r.choice with
  | true =>
    rw [hc] at kx HF HBX
    clear hc
    go_wp2
    go_ret
    exact ⟨ret_bool (by rw [HF.out]; rfl), HAL.out⟩
  | false =>
    rw [hc] at kx HF HR HBX
    clear hc
    cases hbt : bodyT r m with
    | false =>
      rw [hbt] at HF
      have HBT := Lib.hid hbt
      clear hbt
      go_wp2_with (go_at_call 57; (with_reducible refine (body19_call HBT.out HR.out HM.out HOK.out).mono ?_); rintro e w1 ⟨rfl, hb1⟩)
      go_ret
      exact ⟨ret_bool (by rw [HF.out]; rfl), bon HAL.out hb1⟩
    | true =>
      rw [hbt] at HF
      have HBT := Lib.hid hbt
      clear hbt
      go_wp2_with (go_at_call 57; (with_reducible refine (body19_call HBT.out HR.out HM.out HOK.out).mono ?_); rintro e w1 ⟨rfl, hb1⟩; have HB1 := Lib.hid hb1; clear hb1)
      go_loopw [5] (fun i wx => St19Rel m r w1 i wx) (fun i _ => r.head.length - (intOf i).toNat)
      case atStart => exact ⟨0, Nat.zero_le _, rfl, fun j hj => absurd hj (Nat.not_lt_zero _), Below.refl _ _⟩
      case round =>
        obtain ⟨k, hk, rfl, hall, hb⟩ := hrel
        have kx1 := (HBX.out.below (bon HB1.out hb)).cell
        have HA := Lib.hid hall
        have HBW := Lib.hid hb
        clear hall
        by_cases hlt : k < r.head.length
        · obtain ⟨b1, o1, rfl, hb1, hc1⟩ := (HH.out.below (bon HB1.out hb)).at hlt
          cases hin : decide (ix r.head k ∈ m) with
          | true =>
            have HIN := Lib.hid hin
            have HZ : Hid (satT r m = true) := Lib.hid (by rw [HF.out, anyR_true (f := fun j => decide (ix r.head j ∈ m)) k hlt hin]; rfl)
            clear hin
            go_wp2_with (go_at_call 53; (with_reducible refine (in17_call HIN.out (HM.out.below (bon HB1.out HBW.out))).mono ?_); rintro e w2 ⟨rfl, rfl⟩)
            go_ret
            exact ⟨ret_bool HZ.out.symm, bon HAL.out (bon HB1.out HBW.out)⟩
          | false =>
            have HIN := Lib.hid hin
            have HN : Hid (∀ j, j < k + 1 → ix r.head j ∉ m) := Lib.hid fun j hj => by
              rcases Nat.lt_succ_iff_lt_or_eq.1 hj with h1 | rfl
              · exact HA.out j h1
              · exact of_decide_eq_false hin
            clear hin
            go_wp2_with (go_at_call 53; (with_reducible refine (in17_call HIN.out (HM.out.below (bon HB1.out HBW.out))).mono ?_); rintro e w2 ⟨rfl, rfl⟩)
            first
              | (go_roundw
                 case rel => (exact ⟨k + 1, by omega, by go_num, HN.out, HBW.out⟩)
                 case measure => (simp [intOf]; omega))
              | (refine ⟨?_, ?_⟩
                 · (exact ⟨k + 1, by omega, by go_num, HN.out, HBW.out⟩)
                 · (simp [intOf]; omega))
        · obtain rfl : k = r.head.length := by omega
          have HZ : Hid (satT r m = false) := Lib.hid (by rw [HF.out, anyR_false (f := fun j => decide (ix r.head j ∈ m)) fun j hj => decide_eq_false (HA.out j hj)]; rfl)
          go_wp2
          go_ret
          exact ⟨ret_bool HZ.out.symm, bon HAL.out (bon HB1.out HBW.out)⟩
theorem sat19_call {v vm : Value} {r : GR} {m : List Int} {b : Bool} {w : World} (hb : satT r m = b) (hr : RuleIs w v r) (hm : Ints w vm m) (hok : BodyOk r) :
    Calls Tryz.prog 84 #[v, vm] w fun e w' => e = .returned (.bool b) ∧ Below w.heap.size w w' := by
  have := sat19_any v vm r m w hr hm hok
  rwa [hb] at this
def Sa19Rel (m : List Int) (l : List GR) (W : World) (i : Value) (wx : World) : Prop := ∃ k : Nat, k ≤ l.length ∧ i = .int .i64 k ∧ (∀ j, j < k → satT (ixR l j) m = true) ∧ Below W.heap.size W wx
set_option maxHeartbeats 4000000 in
set_option maxRecDepth 100000 in
theorem sats19_any (v vm : Value) (l : List GR) (m : List Int) (w : World) (hr : RulesIs w v l) (hm : Ints w vm m) (hok : ∀ j, j < l.length → BodyOk (ixR l j)) :
    Calls Tryz.prog 36 #[v, vm] w fun e w' => e = .returned (.bool (allR l.length fun j => satT (ixR l j) m)) ∧ Below w.heap.size w w' := by
  obtain ⟨a1, c1, rfl, -, hl1, -, hcell⟩ := hr.form
  obtain ⟨am, cm, rfl, -⟩ := id hm.form
  have HC := Lib.hid hcell
  have HM := Lib.hid hm
  have HOK := Lib.hid hok
  clear hr hm hcell hok
  go_enter Tryz.func36, Tryz.ntmps36
  go_wp2
  go_loopw [5] (fun i wx => Sa19Rel m l w i wx) (fun i _ => l.length - (intOf i).toNat)
  case atStart => exact ⟨0, Nat.zero_le _, rfl, fun j hj => absurd hj (Nat.not_lt_zero _), Below.refl _ _⟩
  case round =>
    obtain ⟨k, hk, rfl, hall, hb⟩ := hrel
    have HA := Lib.hid hall
    have HBW := Lib.hid hb
    clear hall
    by_cases hlt : k < l.length
    · obtain ⟨b, off, rfl, hbl, hc⟩ := HC.out (by omega)
      obtain ⟨vh, vb, vw, ⟨k0, k1, k2, k3, k4, k5⟩, hsl⟩ := hc k hlt
      obtain ⟨x1, y1, rfl, -⟩ := id hsl.head.form
      obtain ⟨x2, y2, rfl, -⟩ := id hsl.body.form
      obtain ⟨x3, y3, rfl, -⟩ := id hsl.wts.form
      have hk0 := (bcell hb _ _ hbl).trans k0
      have hk1 := (bcell hb _ _ hbl).trans k1
      have hk2 := (bcell hb _ _ hbl).trans k2
      have hk3 := (bcell hb _ _ hbl).trans k3
      have hk4 := (bcell hb _ _ hbl).trans k4
      have hk5 := (bcell hb _ _ hbl).trans k5
      have HRU : Hid (RuleIs wr (.agg #[.bool (ixR l k).choice, .slice x1 (ixR l k).head.length y1, .bool (ixR l k).sum, .int .i64 (ixR l k).bound, .slice x2 (ixR l k).body.length y2, .slice x3 (ixR l k).w.length y3]) (ixR l k)) := Lib.hid ⟨_, _, _, rfl, hsl.below hb⟩
      have HO := Lib.hid (HOK.out k hlt)
      clear hc k0 k1 k2 k3 k4 k5 hsl
      cases hs : satT (ixR l k) m with
      | true =>
        have HS := Lib.hid hs
        have HN : Hid (∀ j, j < k + 1 → satT (ixR l j) m = true) := Lib.hid fun j hj => by
          rcases Nat.lt_succ_iff_lt_or_eq.1 hj with h1 | rfl
          · exact HA.out j h1
          · exact hs
        clear hs
        go_wp2_with (go_at_call 84; (with_reducible refine (sat19_call HS.out HRU.out (HM.out.below HBW.out) HO.out).mono ?_); rintro e w1 ⟨rfl, hb1⟩; have HB1 := Lib.hid (bon HBW.out hb1); clear hb1)
        first
          | (go_roundw
             case rel => (exact ⟨k + 1, by omega, by go_num, HN.out, HB1.out⟩)
             case measure => (simp [intOf]; omega))
          | (refine ⟨?_, ?_⟩
             · (exact ⟨k + 1, by omega, by go_num, HN.out, HB1.out⟩)
             · (simp [intOf]; omega))
      | false =>
        have HS := Lib.hid hs
        have HZ : Hid ((allR l.length fun j => satT (ixR l j) m) = false) := Lib.hid (allR_false k hlt hs)
        clear hs
        go_wp2_with (go_at_call 84; (with_reducible refine (sat19_call HS.out HRU.out (HM.out.below HBW.out) HO.out).mono ?_); rintro e w1 ⟨rfl, hb1⟩; have HB1 := Lib.hid (bon HBW.out hb1); clear hb1)
        go_ret
        exact ⟨ret_bool HZ.out.symm, HB1.out⟩
    · obtain rfl : k = l.length := by omega
      have HZ : Hid ((allR l.length fun j => satT (ixR l j) m) = true) := Lib.hid (allR_true HA.out)
      go_wp2
      go_ret
      exact ⟨ret_bool HZ.out.symm, HBW.out⟩
set_option maxHeartbeats 2000000 in
theorem rname41_any (v : Value) (p : GP) (a : Int) (w : World) (h : ProgIs w v p) (ha : InI a) (hI : ItO w a) (h100 : (itS a).size ≤ 100) :
    Calls Tryz.prog 52 #[v, .int .i64 a] w fun e w' => e = .returned (.string (nameX p.names a)) ∧ Below w.heap.size w w' := by
  obtain ⟨vn, vs, vr, vm, rfl, hps⟩ := h
  have hal := bal (Below.refl w.heap.size w) (.cells #[.int .i64 p.n, vn, vs, vr, vm] 27)
  have hl := hps.names.below hal
  have hb := Blk.new w [.int .i64 p.n, vn, vs, vr, vm] 27
  have HI := Lib.hid (hI _ hal)
  obtain ⟨l, hln⟩ : ∃ l, p.names = l := ⟨_, rfl⟩
  rw [hln] at hl
  rw [hln]
  have HAL := Lib.hid hal
  clear hps hal hln hI
  obtain ⟨an, cn, rfl, -, hl1, hl2, hsz, hat⟩ := hl.form
  have kb := hb.cell
  unfold InI at ha
  clear hl hb
  by_cases h1 : 1 ≤ a
  · by_cases h2 : a ≤ (l.length : Int)
    · obtain ⟨k, rfl⟩ : ∃ k : Nat, a = (k : Int) + 1 := ⟨(a - 1).toNat, by omega⟩
      have hk : k < l.length := by omega
      obtain ⟨bn, off, rfl, hbn, hcn⟩ := hat (by omega)
      have kc := hcn k hk
      have HK : Hid (((k : Int) + 1 - 1).toNat = k) := Lib.hid (by omega)
      by_cases h3 : (ixS l k).toList = []
      · have h3' : (ixS l k).toList.isEmpty = true := by rw [h3]; rfl
        have HN : Hid (nameX l ((k : Int) + 1) = ⟨#[35]⟩ ++ itS ((k : Int) + 1)) := Lib.hid (by unfold nameX; rw [HK.out, if_neg (fun h => h.2.2 (bytes_nil.2 h3))])
        clear hcn hsz hat HK
        go_enter Tryz.func52, Tryz.ntmps52
        go_upto_region 1 with fail
        generalize w.alloc (.cells #[.int .i64 p.n, .slice (some ⟨bn, off, none⟩) l.length cn, vs, vr, vm] 27) = W0 at *
        go_wp2_with (go_at_call 49; (with_reducible refine (HI.out).mono ?_); rintro e w1 ⟨rfl, hb1⟩; have HB1 := Lib.hid (bon HAL.out hb1); clear hb1)
        go_ret
        exact ⟨by rw [HN.out]; rfl, HB1.out⟩
      · have h3' : (ixS l k).toList.isEmpty = false := by rw [List.isEmpty_eq_false_iff]; exact h3
        have HN : Hid (nameX l ((k : Int) + 1) = ixS l k) := Lib.hid (by unfold nameX; rw [HK.out, if_pos ⟨h1, h2, fun h => h3 (bytes_nil.1 h)⟩])
        clear hcn hsz hat HK
        go_enter Tryz.func52, Tryz.ntmps52
        go_upto_region 1 with fail
        generalize w.alloc (.cells #[.int .i64 p.n, .slice (some ⟨bn, off, none⟩) l.length cn, vs, vr, vm] 27) = W0 at *
        go_wp2_with (go_at_call 49; (with_reducible refine (HI.out).mono ?_); rintro e w1 ⟨rfl, hb1⟩)
        go_ret
        exact ⟨by rw [HN.out]; rfl, HAL.out⟩
    · have HN : Hid (nameX l a = ⟨#[35]⟩ ++ itS a) := Lib.hid (by unfold nameX; rw [if_neg (fun h => h2 h.2.1)])
      clear hsz hat
      go_enter Tryz.func52, Tryz.ntmps52
      go_upto_region 1 with fail
      generalize w.alloc (.cells #[.int .i64 p.n, .slice an l.length cn, vs, vr, vm] 27) = W0 at *
      go_wp2_with (go_at_call 49; (with_reducible refine (HI.out).mono ?_); rintro e w1 ⟨rfl, hb1⟩; have HB1 := Lib.hid (bon HAL.out hb1); clear hb1)
      go_ret
      exact ⟨by rw [HN.out]; rfl, HB1.out⟩
  · have HN : Hid (nameX l a = ⟨#[35]⟩ ++ itS a) := Lib.hid (by unfold nameX; rw [if_neg (fun h => h1 h.1)])
    clear hsz hat
    go_enter Tryz.func52, Tryz.ntmps52
    go_upto_region 1 with fail
    generalize w.alloc (.cells #[.int .i64 p.n, .slice an l.length cn, vs, vr, vm] 27) = W0 at *
    go_wp2_with (go_at_call 49; (with_reducible refine (HI.out).mono ?_); rintro e w1 ⟨rfl, hb1⟩; have HB1 := Lib.hid (bon HAL.out hb1); clear hb1)
    go_ret
    exact ⟨by rw [HN.out]; rfl, HB1.out⟩
end Go.Proofs.YtgakoainjgjimaaGreatDoor
