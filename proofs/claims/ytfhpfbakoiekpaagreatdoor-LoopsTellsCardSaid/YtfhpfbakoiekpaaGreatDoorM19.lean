/- My texts Ref17d, Rf27d, Rf26b, Rf27e, Rc1, merged. -/
import Derived.Test.YtfhpfbakoiekpaaGreatDoorM04
import Derived.Test.YtfhpfbakoiekpaaGreatDoorM18
import Derived.Test.YtfhpfbakoiekpaaGreatDoorM17
import Derived.Test.YtfhpfbakoiekpaaGreatDoorM02
import Derived.Test.YtfhpfbakoiekpaaGreatDoorM07
import Derived.Test.YtfhpfbakoiekpaaGreatDoorM13

/- ostlerref17.Valid. -/
namespace Go.Proofs.YtfhpfbakoiekpaaGreatDoor
open Go.RowKit

set_option maxHeartbeats 4000000 in
set_option maxRecDepth 100000 in
theorem valid_ref (v : Value) (p : GP) (w : World) (h : ProgIs w v p) :
    Calls Tryz.prog 15 #[v] w (ValidPost p w) := by
  obtain ⟨vn, vs, vr, vm, rfl, hn, hnames, hshown, hrules, hmin⟩ := h
  obtain ⟨a0, c0, rfl, -, hl0, -⟩ := hnames.form
  obtain ⟨a9, c9, rfl, -, hl9, -, -⟩ := hshown.form
  obtain ⟨a1, c1, rfl, -, hl1, -, hcell⟩ := hrules.form
  obtain ⟨a2, c2, rfl, -, hl2, -, hmcell⟩ := hmin.form
  have hal := bal (Below.refl w.heap.size w) (.cells #[.int .i64 p.n, .slice a0 p.names.length c0, .slice a9 p.shown.length c9, .slice a1 p.rules.length c1, .slice a2 p.min.length c2] 27)
  have HN := Lib.hid (hnames.below hal)
  have HS := Lib.hid (hshown.below hal)
  unfold InI at hn
  clear hrules hmin hnames hshown
  have H170 : Hid (namedB p = false → validE p = 170) := Lib.hid (fun h => by simp [validE, h])
  have hnd : namedB p = (decide (0 ≤ p.n ∧ p.n ≤ 4000 ∧ (p.names.length : Int) = p.n) && increasingB p.shown p.n && namesB p.names) := rfl
  have HND := Lib.hid hnd
  clear hnd
  by_cases g1 : p.n < 0
  · have HF := Lib.hid (H170.out (by rw [HND.out, decide_eq_false (by omega)]; rfl))
    go_enter Tryz.func15, Tryz.ntmps15
    go_wp2
    go_ret
    exact ⟨ret_int HF.out.symm, hal⟩
  by_cases g2 : 4000 < p.n
  · have HF := Lib.hid (H170.out (by rw [HND.out, decide_eq_false (by omega)]; rfl))
    go_enter Tryz.func15, Tryz.ntmps15
    go_wp2
    go_ret
    exact ⟨ret_int HF.out.symm, hal⟩
  by_cases g3 : (p.names.length : Int) = p.n
  case neg =>
    have HF := Lib.hid (H170.out (by rw [HND.out, decide_eq_false (by omega)]; rfl))
    have g3' : ((p.names.length : Int) != p.n) = true := by simp [g3]
    clear g3
    go_enter Tryz.func15, Tryz.ntmps15
    go_wp2
    go_ret
    exact ⟨ret_int HF.out.symm, hal⟩
  have g3' : ((p.names.length : Int) != p.n) = false := by simp [g3]
  have HND2 : Hid (namedB p = (increasingB p.shown p.n && namesB p.names)) := Lib.hid (by rw [HND.out, decide_eq_true (by omega)]; simp)
  clear g3 HND
  cases g5 : namesB p.names with
  | false =>
    have HF := Lib.hid (H170.out (by rw [HND2.out, g5]; simp))
    go_enter Tryz.func15, Tryz.ntmps15
    go_wp2_with (go_at_call 51; (with_reducible refine (names_ref _ _ _ HN.out).mono ?_); rintro e w1 ⟨e1, hb1⟩; rw [g5] at e1; subst e1; have hc1 := bcell hb1; have hz1 : w.heap.size < w1.heap.size := (by have := hb1.size; simp at this; omega))
    go_ret
    exact ⟨ret_int HF.out.symm, bon hal hb1⟩
  | true =>
  cases g6 : increasingB p.shown p.n with
  | false =>
    have HF := Lib.hid (H170.out (by rw [HND2.out, g6]; rfl))
    go_enter Tryz.func15, Tryz.ntmps15
    go_wp2_with (first | (go_at_call 51; (with_reducible refine (names_ref _ _ _ HN.out).mono ?_); rintro e w1 ⟨e1, hb1⟩; rw [g5] at e1; subst e1; have hc1 := bcell hb1; have hz1 : w.heap.size < w1.heap.size := (by have := hb1.size; simp at this; omega)) | (go_at_call 52; (with_reducible refine (atoms_ref _ _ p.n _ (HS.out.below hb1)).mono ?_); rintro e w2 ⟨e2, hb2⟩; rw [g6] at e2; subst e2; have hc2 := bcell hb2; have hz2 : w.heap.size < w2.heap.size := (by have := hb2.size; omega)))
    go_ret
    exact ⟨ret_int HF.out.symm, bon (bon hal hb1) hb2⟩
  | true =>
  have h1 : namedB p = true := by rw [HND2.out, g5, g6]; rfl
  by_cases h2 : 40000 < p.rules.length
  · have HF : Hid (validE p = 171) := Lib.hid (by simp [validE, h1, h2])
    clear h1
    go_enter Tryz.func15, Tryz.ntmps15
    go_wp2_with (first | (go_at_call 51; (with_reducible refine (names_ref _ _ _ HN.out).mono ?_); rintro e w1 ⟨e1, hb1⟩; rw [g5] at e1; subst e1; have hc1 := bcell hb1; have hz1 : w.heap.size < w1.heap.size := (by have := hb1.size; simp at this; omega)) | (go_at_call 52; (with_reducible refine (atoms_ref _ _ p.n _ (HS.out.below hb1)).mono ?_); rintro e w2 ⟨e2, hb2⟩; rw [g6] at e2; subst e2; have hc2 := bcell hb2; have hz2 : w.heap.size < w2.heap.size := (by have := hb2.size; omega)))
    go_ret
    exact ⟨ret_int HF.out.symm, bon (bon hal hb1) hb2⟩
  have HF : Hid (validE p = if rulesE p.rules p.n ≠ 0 then rulesE p.rules p.n else if 8 < p.min.length then 175 else if minsB p.min p.n = false then 175 else 0) := Lib.hid (by simp [validE, h1, h2])
  have hn4 : 0 ≤ p.n ∧ p.n ≤ 4000 := by omega
  clear h1
  go_enter Tryz.func15, Tryz.ntmps15
  go_wp2_with (first | (go_at_call 51; (with_reducible refine (names_ref _ _ _ HN.out).mono ?_); rintro e w1 ⟨e1, hb1⟩; rw [g5] at e1; subst e1; have hc1 := bcell hb1; have hz1 : w.heap.size < w1.heap.size := (by have := hb1.size; simp at this; omega)) | (go_at_call 52; (with_reducible refine (atoms_ref _ _ p.n _ (HS.out.below hb1)).mono ?_); rintro e w2 ⟨e2, hb2⟩; rw [g6] at e2; subst e2; have hc2 := bcell hb2; have hz2 : w.heap.size < w2.heap.size := (by have := hb2.size; omega)))
  have hb12 := bon hb1 hb2
  clear hb1 hb2
  obtain ⟨W, hW⟩ : ∃ W, W = (w.alloc (.cells #[.int .i64 p.n, .slice a0 p.names.length c0, .slice a9 p.shown.length c9, .slice a1 p.rules.length c1, .slice a2 p.min.length c2] 27)) := ⟨_, rfl⟩
  go_loopw [3] (VRel1 p.rules p.n W) (fun i _ => p.rules.length - (intOf i).toNat)
  case atStart => exact ⟨0, by omega, rfl, fun j hj => absurd hj (Nat.not_lt_zero _), by rw [hW]; exact hb12⟩
  case round =>
    obtain ⟨k, hk, rfl, hok, hb⟩ := hrel
    have HOK := Lib.hid hok
    clear hok
    have hsW : w.heap.size < W.heap.size := by rw [hW]; simp
    have hsr : w.heap.size < wr.heap.size := Nat.lt_of_lt_of_le hsW hb.size
    have q0 : wr.cell? ⟨w.heap.size, 0, none⟩ = some (.int .i64 p.n) := by rw [bcell hb _ _ hsW, hW]; go_simp
    have q3 : wr.cell? ⟨w.heap.size, 4, none⟩ = some (.slice a2 p.min.length c2) := by rw [bcell hb _ _ hsW, hW]; go_simp
    have q2 : wr.cell? ⟨w.heap.size, 3, none⟩ = some (.slice a1 p.rules.length c1) := by rw [bcell hb _ _ hsW, hW]; go_simp
    clear hc1 hc2 hb12 HN HS
    rw [← hW] at hal
    have hbw := bon hal hb
    clear hW
    by_cases hlt : k < p.rules.length
    · obtain ⟨b, off, rfl, hbl, hc⟩ := hcell (by omega)
      obtain ⟨vh, vb, vw, hcc, hsl⟩ := hc k hlt
      obtain ⟨r0, r1, r2, r3, r4, r5⟩ := hcc.below hbw hbl
      have HS := Lib.hid (hsl.below hbw)
      obtain ⟨a3, c3, rfl, -, hl3, -, -⟩ := hsl.head.form
      obtain ⟨a4, c4, rfl, -, hl4, -, -⟩ := hsl.body.form
      obtain ⟨a5, c5, rfl, -, hl5, -, -⟩ := hsl.wts.form
      have hbr := Nat.lt_of_lt_of_le hbl hbw.size
      have HR : Hid (∀ e : Ext wr, RuleIs e.world (.agg #[.bool (ixR p.rules k).choice, .slice a3 (ixR p.rules k).head.length c3, .bool (ixR p.rules k).sum, .int .i64 (ixR p.rules k).bound, .slice a4 (ixR p.rules k).body.length c4, .slice a5 (ixR p.rules k).w.length c5]) (ixR p.rules k)) := Lib.hid (fun e => ⟨_, _, _, rfl, HS.out.below e.below⟩)
      have x0 : ∀ e : Ext wr, e.world.cell? ⟨w.heap.size, 0, none⟩ = some (.int .i64 p.n) := fun e => (bcell e.below _ _ hsr).trans q0
      have x1 : ∀ e : Ext wr, e.world.cell? ⟨w.heap.size, 3, none⟩ = some (.slice (some ⟨b, off, none⟩) p.rules.length c1) := fun e => (bcell e.below _ _ hsr).trans q2
      have s0 : ∀ e : Ext wr, e.world.cell? ⟨b, off + k * 6, none⟩ = _ := fun e => (bcell e.below _ _ hbr).trans r0
      have s1 : ∀ e : Ext wr, e.world.cell? ⟨b, off + k * 6 + 1, none⟩ = _ := fun e => (bcell e.below _ _ hbr).trans r1
      have s2 : ∀ e : Ext wr, e.world.cell? ⟨b, off + k * 6 + 2, none⟩ = _ := fun e => (bcell e.below _ _ hbr).trans r2
      have s3 : ∀ e : Ext wr, e.world.cell? ⟨b, off + k * 6 + 3, none⟩ = _ := fun e => (bcell e.below _ _ hbr).trans r3
      have s4 : ∀ e : Ext wr, e.world.cell? ⟨b, off + k * 6 + 4, none⟩ = _ := fun e => (bcell e.below _ _ hbr).trans r4
      have s5 : ∀ e : Ext wr, e.world.cell? ⟨b, off + k * 6 + 5, none⟩ = _ := fun e => (bcell e.below _ _ hbr).trans r5
      have hnI : InI p.n := by unfold InI; omega
      clear hc hcell hcc hsl r0 r1 r2 r3 r4 r5
      by_cases hz : ruleE (ixR p.rules k) p.n = 0
      · have hz1 : (ruleE (ixR p.rules k) p.n == 0) = true := by simp [hz]
        have hz2 : (ruleE (ixR p.rules k) p.n != 0) = false := by simp [hz]
        have HZ := Lib.hid hz
        clear hz
        go_wp2
        refine wp_region_ext (by kernel_rfl) (by kernel_rfl) ?_
        repeat (go_big_quiet_step ((first | (go_at_call 53; exact Calls.ext_of (rule_ref _ _ _ _ (HR.out _) hnI)))))
        refine wpQuiet_nil ?_
        intro _ hw'
        obtain ⟨⟨w9, hb9⟩, rfl⟩ := hw'
        try dsimp only
        go_wp2
        first
          | (go_roundw
             case rel => (exact ⟨k + 1, by omega, by go_num, lt_succ_all HOK.out HZ.out, bon hb hb9⟩)
             case measure => (simp [intOf]; omega))
          | (refine ⟨?_, ?_⟩
             · (exact ⟨k + 1, by omega, by go_num, lt_succ_all HOK.out HZ.out, bon hb hb9⟩)
             · (simp [intOf]; omega))
      · have hz1 : (ruleE (ixR p.rules k) p.n == 0) = false := by simp [hz]
        have hz2 : (ruleE (ixR p.rules k) p.n != 0) = true := by simp [hz]
        have HZ := Lib.hid hz
        clear hz
        go_wp2
        refine wp_region_ext (by kernel_rfl) (by kernel_rfl) ?_
        repeat (go_big_quiet_step ((first | (go_at_call 53; exact Calls.ext_of (rule_ref _ _ _ _ (HR.out _) hnI)))))
        refine wpQuiet_nil ?_
        intro _ hw'
        obtain ⟨⟨w9, hb9⟩, rfl⟩ := hw'
        try dsimp only
        go_wp2
        go_ret
        refine ⟨ret_int ?_, bon hbw hb9⟩
        have e1 : rulesE p.rules p.n = ruleE (ixR p.rules k) p.n := by
          rw [rulesFrom_split p.rules p.n k hk HOK.out, show p.rules.length - k = (p.rules.length - k - 1) + 1 by omega, rulesFrom, if_pos HZ.out]
        rw [HF.out, e1, if_pos HZ.out]
    · have e1 : rulesE p.rules p.n = 0 := by
        rw [rulesFrom_split p.rules p.n k hk HOK.out, show p.rules.length - k = 0 by omega]; rfl
      rw [e1] at HF
      by_cases h3 : 8 < p.min.length
      · go_wp2
        go_ret
        exact ⟨ret_int (by rw [HF.out]; simp [h3]), hbw⟩
      go_wp2
      clear HOK hlt hk e1
      have HBW := Lib.hid hbw
      clear hbw hb hal
      obtain ⟨wo, hwo⟩ : ∃ wo : World, wo = wr := ⟨_, rfl⟩
      rw [← hwo] at q0 q3 hsr HBW ⊢
      clear hwo
      go_loopw [5] (VRel2 p.min p.n wo) (fun i _ => p.min.length - (intOf i).toNat)
      case atStart => exact ⟨0, by omega, rfl, fun j hj => absurd hj (Nat.not_lt_zero _), Below.refl _ _⟩
      case round =>
        obtain ⟨k, hk, rfl, hok, hb⟩ := hrel
        have HOK := Lib.hid hok
        clear hok
        have hbw := bon HBW.out hb
        replace q0 := (bcell hb _ _ hsr).trans q0
        replace q3 := (bcell hb _ _ hsr).trans q3
        have hsr2 := Nat.lt_of_lt_of_le hsr hb.size
        by_cases hlt : k < p.min.length
        · obtain ⟨b, off, rfl, hbl, hc⟩ := hmcell (by omega)
          obtain ⟨vl, vw, hcc, hsl⟩ := hc k hlt
          obtain ⟨vl', vw', hcc', hsl'⟩ := hc (k - 1) (by omega)
          obtain ⟨m0, m1, m2⟩ := hcc.below hbw hbl
          obtain ⟨m0', -, -⟩ := hcc'.below hbw hbl
          have HS := Lib.hid (hsl.below hbw)
          obtain ⟨a3, c3, rfl, -, hl3, -, -⟩ := hsl.lits.form
          obtain ⟨a4, c4, rfl, -, hl4, -, -⟩ := hsl.wts.form
          have hlv := hsl.level
          have hlv' := hsl'.level
          unfold InI at hlv hlv'
          have hbr := Nat.lt_of_lt_of_le hbl hbw.size
          obtain ⟨W2, hW2⟩ : ∃ W2, W2 = wr.alloc (.cells #[.int .i64 (ixM p.min k).level, .slice a3 (ixM p.min k).lits.length c3, .slice a4 (ixM p.min k).w.length c4] 83) := ⟨_, rfl⟩
          have hbx : Below wr.heap.size wr W2 := by rw [hW2]; exact bal (Below.refl _ _) _
          have hz2 : wr.heap.size < W2.heap.size := by rw [hW2]; simp
          have HL : Hid (∀ e : Ext W2, Ints e.world (.slice a3 (ixM p.min k).lits.length c3) (ixM p.min k).lits) := Lib.hid (fun e => HS.out.lits.below (bon hbx e.below))
          have HW2 : Hid (∀ e : Ext W2, Ints e.world (.slice a4 (ixM p.min k).w.length c4) (ixM p.min k).w) := Lib.hid (fun e => HS.out.wts.below (bon hbx e.below))
          have x0 : ∀ e : Ext W2, e.world.cell? ⟨w.heap.size, 0, none⟩ = some (.int .i64 p.n) := fun e => (bcell (bon hbx e.below) _ _ hsr2).trans q0
          have x1 : ∀ e : Ext W2, e.world.cell? ⟨w.heap.size, 4, none⟩ = some (.slice (some ⟨b, off, none⟩) p.min.length c2) := fun e => (bcell (bon hbx e.below) _ _ hsr2).trans q3
          have x2 : ∀ e : Ext W2, e.world.cell? ⟨wr.heap.size, 0, none⟩ = some (.int .i64 (ixM p.min k).level) := fun e => (bcell e.below _ _ hz2).trans (by rw [hW2]; go_simp)
          have x3 : ∀ e : Ext W2, e.world.cell? ⟨wr.heap.size, 1, none⟩ = some (.slice a3 (ixM p.min k).lits.length c3) := fun e => (bcell e.below _ _ hz2).trans (by rw [hW2]; go_simp)
          have x4 : ∀ e : Ext W2, e.world.cell? ⟨wr.heap.size, 2, none⟩ = some (.slice a4 (ixM p.min k).w.length c4) := fun e => (bcell e.below _ _ hz2).trans (by rw [hW2]; go_simp)
          have x5 : ∀ e : Ext W2, e.world.cell? ⟨b, off + (k - 1) * 3, none⟩ = some (.int .i64 (ixM p.min (k - 1)).level) := fun e => (bcell (bon hbx e.below) _ _ hbr).trans m0'
          clear hc hmcell hcell hcc hcc' hsl hsl' m0'
          have hW2' := hW2.symm
          clear hW2
          have hbad : minAt p.min p.n k = false → Hid (validE p = 175) := fun h => Lib.hid (by rw [HF.out, minsB, allR_false k hlt h]; simp)
          have hmk : minAt p.min p.n k = (orderedB (ixM p.min k).lits p.n && weightsB (ixM p.min k).w (ixM p.min k).lits.length && decide (-2147483647 ≤ (ixM p.min k).level ∧ (ixM p.min k).level ≤ 2147483647) && (k == 0 || decide ((ixM p.min k).level < (ixM p.min (k - 1)).level))) := rfl
          have HMK := Lib.hid hmk
          have HBAD := Lib.hid hbad
          clear hmk hbad
          have hbw2 := fun (w9 : World) (hb9 : Below W2.heap.size W2 w9) => bon hbw (bon hbx hb9)
          have HFIN := Lib.hid hbw2
          have HFIN2 : Hid (∀ w9 : World, Below W2.heap.size W2 w9 → Below wo.heap.size wo w9) := Lib.hid (fun w9 hb9 => bon hb (bon hbx hb9))
          clear hbw2
          have HLT0 : Hid (∀ e : Ext W2, Calls Tryz.prog 54 #[.slice a3 (ixM p.min k).lits.length c3, .int .i64 p.n] e.world fun x w' => x = .returned (.bool (orderedB (ixM p.min k).lits p.n)) ∧ Below e.world.heap.size e.world w') := Lib.hid (fun e => lits_ref _ _ _ _ (HL.out e) hn4)
          have HTT0 : Hid (∀ e : Ext W2, Calls Tryz.prog 55 #[.slice a4 (ixM p.min k).w.length c4, .int .i64 1] e.world fun x w' => x = .returned (.int .i64 (totI (ixM p.min k).w)) ∧ e.world = w') := Lib.hid (fun e => total_def _ _ _ (HW2.out e))
          clear HL HW2
          cases g1 : orderedB (ixM p.min k).lits p.n with
          | false =>
            have HB := HBAD.out (by rw [HMK.out, g1]; rfl)
            rw [g1] at HLT0
            have HLT := HLT0
            go_wp2
            refine wp_region_ext (by kernel_rfl) (by kernel_rfl) ?_
            repeat (go_big_quiet_step ((first | (go_at_call 54; exact Calls.ext_of (HLT.out _)) | (go_at_call 55; exact Calls.ext_of_same (HTT.out _)))))
            refine wpQuiet_nil ?_
            intro _ hw'
            obtain ⟨⟨w9, hb9⟩, rfl⟩ := hw'
            try dsimp only
            go_wp2
            go_ret
            exact ⟨ret_int HB.out.symm, HFIN.out _ hb9⟩
          | true =>
          rw [g1] at HLT0
          have HLT := HLT0
          by_cases g7 : (ixM p.min k).w.length = (ixM p.min k).lits.length
          case neg =>
            have g7' : (((ixM p.min k).w.length : Int) != ((ixM p.min k).lits.length : Int)) = true := by simp; omega
            have HB := HBAD.out (by
              have : weightsB (ixM p.min k).w (ixM p.min k).lits.length = false := by
                unfold weightsB
                rw [show decide (((ixM p.min k).w.length : Int) = ((ixM p.min k).lits.length : Int)) = false from decide_eq_false (by omega)]; simp
              rw [HMK.out, g1, this]; rfl)
            clear g7
            go_wp2
            refine wp_region_ext (by kernel_rfl) (by kernel_rfl) ?_
            repeat (go_big_quiet_step ((first | (go_at_call 54; exact Calls.ext_of (HLT.out _)) | (go_at_call 55; exact Calls.ext_of_same (HTT.out _)))))
            refine wpQuiet_nil ?_
            intro _ hw'
            obtain ⟨⟨w9, hb9⟩, rfl⟩ := hw'
            try dsimp only
            go_wp2
            go_ret
            exact ⟨ret_int HB.out.symm, HFIN.out _ hb9⟩
          have g7' : (((ixM p.min k).w.length : Int) != ((ixM p.min k).lits.length : Int)) = false := by simp [g7]
          cases g2 : weightsB (ixM p.min k).w (ixM p.min k).lits.length with
          | false =>
            have HB := HBAD.out (by rw [HMK.out, g1, g2]; rfl)
            have ht : totI (ixM p.min k).w = -1 := by unfold totI; rw [g7, g2]; rfl
            rw [ht] at HTT0
            have HTT := HTT0
            clear g7 ht
            go_wp2
            refine wp_region_ext (by kernel_rfl) (by kernel_rfl) ?_
            repeat (go_big_quiet_step ((first | (go_at_call 54; exact Calls.ext_of (HLT.out _)) | (go_at_call 55; exact Calls.ext_of_same (HTT.out _)))))
            refine wpQuiet_nil ?_
            intro _ hw'
            obtain ⟨⟨w9, hb9⟩, rfl⟩ := hw'
            try dsimp only
            go_wp2
            go_ret
            exact ⟨ret_int HB.out.symm, HFIN.out _ hb9⟩
          | true =>
          have ht : 0 ≤ totI (ixM p.min k).w := totI_pos (by rw [g7]; exact g2)
          have ht' : decide (totI (ixM p.min k).w < 0) = false := decide_eq_false (by omega)
          have HTT := HTT0
          clear g7
          by_cases g3 : (ixM p.min k).level < -2147483647
          · have HB := HBAD.out (by rw [HMK.out, g1, g2]; simp; omega)
            go_wp2
            refine wp_region_ext (by kernel_rfl) (by kernel_rfl) ?_
            repeat (go_big_quiet_step ((first | (go_at_call 54; exact Calls.ext_of (HLT.out _)) | (go_at_call 55; exact Calls.ext_of_same (HTT.out _)))))
            refine wpQuiet_nil ?_
            intro _ hw'
            obtain ⟨⟨w9, hb9⟩, rfl⟩ := hw'
            try dsimp only
            go_wp2
            go_ret
            exact ⟨ret_int HB.out.symm, HFIN.out _ hb9⟩
          have g3' : decide ((ixM p.min k).level < -2147483647) = false := by simp; omega
          by_cases g4 : 2147483647 < (ixM p.min k).level
          · have HB := HBAD.out (by rw [HMK.out, g1, g2]; simp; omega)
            go_wp2
            refine wp_region_ext (by kernel_rfl) (by kernel_rfl) ?_
            repeat (go_big_quiet_step ((first | (go_at_call 54; exact Calls.ext_of (HLT.out _)) | (go_at_call 55; exact Calls.ext_of_same (HTT.out _)))))
            refine wpQuiet_nil ?_
            intro _ hw'
            obtain ⟨⟨w9, hb9⟩, rfl⟩ := hw'
            try dsimp only
            go_wp2
            go_ret
            exact ⟨ret_int HB.out.symm, HFIN.out _ hb9⟩
          have g4' : decide (2147483647 < (ixM p.min k).level) = false := by simp; omega
          have g34 : decide (-2147483647 ≤ (ixM p.min k).level ∧ (ixM p.min k).level ≤ 2147483647) = true := by simp; omega
          by_cases hk0 : k = 0
          · have hkp : decide (0 < k) = false := by simp; omega
            have HZ : Hid (minAt p.min p.n k = true) := Lib.hid (by rw [HMK.out, g1, g2, g34, hk0]; rfl)
            clear hk0 g34
            go_wp2
            refine wp_region_ext (by kernel_rfl) (by kernel_rfl) ?_
            repeat (go_big_quiet_step ((first | (go_at_call 54; exact Calls.ext_of (HLT.out _)) | (go_at_call 55; exact Calls.ext_of_same (HTT.out _)))))
            refine wpQuiet_nil ?_
            intro _ hw'
            obtain ⟨⟨w9, hb9⟩, rfl⟩ := hw'
            try dsimp only
            go_wp2
            first
              | (go_roundw
                 case rel => (exact ⟨k + 1, by omega, by go_num, lt_succ_all HOK.out HZ.out, HFIN2.out _ hb9⟩)
                 case measure => (simp [intOf]; omega))
              | (refine ⟨?_, ?_⟩
                 · (exact ⟨k + 1, by omega, by go_num, lt_succ_all HOK.out HZ.out, HFIN2.out _ hb9⟩)
                 · (simp [intOf]; omega))
          have hkp : decide (0 < k) = true := by simp; omega
          have hkq : (0 : Int) < (k : Int) := by omega
          have hkn : (0 : Int) ≤ (k : Int) - 1 := by omega
          have hkm : ((k : Int) - 1).toNat = k - 1 := by omega
          have hkb : (k == 0) = false := by simp [hk0]
          by_cases g5 : (ixM p.min (k - 1)).level ≤ (ixM p.min k).level
          · have HB := HBAD.out (by rw [HMK.out, g1, g2, g34, hkb]; simp; omega)
            clear g34 hkb
            go_wp2
            refine wp_region_ext (by kernel_rfl) (by kernel_rfl) ?_
            repeat (go_big_quiet_step ((first | (go_at_call 54; exact Calls.ext_of (HLT.out _)) | (go_at_call 55; exact Calls.ext_of_same (HTT.out _)))))
            refine wpQuiet_nil ?_
            intro _ hw'
            obtain ⟨⟨w9, hb9⟩, rfl⟩ := hw'
            try dsimp only
            go_wp2
            go_ret
            exact ⟨ret_int HB.out.symm, HFIN.out _ hb9⟩
          · have g5' : decide ((ixM p.min (k - 1)).level ≤ (ixM p.min k).level) = false := by simp; omega
            have HZ : Hid (minAt p.min p.n k = true) := Lib.hid (by rw [HMK.out, g1, g2, g34, hkb]; simp; omega)
            clear g34 hkb
            go_wp2
            refine wp_region_ext (by kernel_rfl) (by kernel_rfl) ?_
            repeat (go_big_quiet_step ((first | (go_at_call 54; exact Calls.ext_of (HLT.out _)) | (go_at_call 55; exact Calls.ext_of_same (HTT.out _)))))
            refine wpQuiet_nil ?_
            intro _ hw'
            obtain ⟨⟨w9, hb9⟩, rfl⟩ := hw'
            try dsimp only
            go_wp2
            first
              | (go_roundw
                 case rel => (exact ⟨k + 1, by omega, by go_num, lt_succ_all HOK.out HZ.out, HFIN2.out _ hb9⟩)
                 case measure => (simp [intOf]; omega))
              | (refine ⟨?_, ?_⟩
                 · (exact ⟨k + 1, by omega, by go_num, lt_succ_all HOK.out HZ.out, HFIN2.out _ hb9⟩)
                 · (simp [intOf]; omega))
        · have HL2 : Hid (k = p.min.length) := Lib.hid (by omega)
          have HE : Hid (validE p = 0) := Lib.hid (by rw [HF.out, minsB, allR_true (by rw [← HL2.out]; exact HOK.out)]; simp [h3])
          go_wp2
          go_ret
          exact ⟨ret_int HE.out.symm, hbw⟩

end Go.Proofs.YtfhpfbakoiekpaaGreatDoor

/- ostlerref27: Unfounded, Valid. -/
namespace Go.Proofs.YtfhpfbakoiekpaaGreatDoor
open Go.RowKit

/-- What the calls of Unfounded leave. -/
def uf27Φ (D : List Int) (bb : Bool) (i : Nat) (_ : List Value) (v : Value) (_ _ : Nat) (w : World) : Prop :=
  match i with
  | 1 => v = .int .i64 0
  | 6 => v = .bool true
  | 13 => (∃ a n c, v = .slice a n c) ∧ Ints w v D
  | _ => v = .bool bb
theorem uf27Φ_later (D : List Int) (bb : Bool) : ∀ i args v lo hi w w', uf27Φ D bb i args v lo hi w → Below w.heap.size w w' → uf27Φ D bb i args v lo hi w' := by
  intro i args v lo hi w w' h hb
  unfold uf27Φ at *
  split at h <;> first | exact h | exact ⟨h.1, h.2.below hb⟩

set_option maxHeartbeats 4000000 in
set_option maxRecDepth 100000 in
theorem runf_any (v va vm : Value) (p : GP) (a S : List Int) (w : World) (h : ProgIs w v p) (ha : Bytes8 w va a) (hm : Ints w vm S) :
    Calls Tryz.prog 10 #[v, va, vm] w fun e w' => e = .returned (.bool (unfR p a S)) ∧ Below w.heap.size w w' := by
  have h0 := h
  obtain ⟨vn, vs, vr, vmn, rfl, hPS⟩ := h
  obtain ⟨a1, c1, rfl, -, hl1, -, -⟩ := hPS.rules.form
  obtain ⟨a2, n2, c2, rfl⟩ : ∃ x n c, va = .slice x n c := by
    obtain ⟨⟨x, c, rfl, -⟩, -⟩ := ha
    exact ⟨_, _, _, rfl⟩
  obtain ⟨a3, c3, rfl, -⟩ := hm.form
  have hal := bal (Below.refl w.heap.size w) (.cells #[.int .i64 p.n, vn, vs, .slice a1 p.rules.length c1, vmn] 27)
  have HAL := Lib.hid hal
  have HBK := Lib.hid (Blk.new w [.int .i64 p.n, vn, vs, .slice a1 p.rules.length c1, vmn] 27)
  have HP0 := Lib.hid (h0.below hal)
  have HA0 := Lib.hid (ha.below hal)
  have HM0 := Lib.hid (hm.below hal)
  have HDF : Hid (unfR p a S = (decide (validE p = 0) && setB' p.n S && allB27 p S (falL p a))) := Lib.hid rfl
  have hlm := hm.form
  clear h0 hPS ha hm hal hlm
  go_enter Tryz.func10, Tryz.ntmps10
  go_upto_region 1 with fail
  generalize w.alloc (.cells #[.int .i64 p.n, vn, vs, .slice a1 p.rules.length c1, vmn] 27) = W0 at *
  have hz0 := HBK.out.lt
  have kx0 := HBK.out.cell
  have kxe : ∀ e : Ext W0, ∀ o, e.world.cell? ⟨w.heap.size, o, none⟩ = _ := fun e o => (bcell e.below _ o hz0).trans (HBK.out.cell o)
  have HVC : Hid (∀ e : Ext W0, Calls Tryz.prog 15 #[.agg #[.int .i64 p.n, vn, vs, .slice a1 p.rules.length c1, vmn]] e.world fun e' w' => e' = .returned (.int .i64 (validE p)) ∧ Below e.world.heap.size e.world w') := Lib.hid (fun e => valid_ref _ p _ (HP0.out.below e.below))
  have HSC : Hid (∀ e : Ext W0, Calls Tryz.prog 41 #[.agg #[.int .i64 p.n, vn, vs, .slice a1 p.rules.length c1, vmn], .slice a3 S.length c3] e.world fun e' w' => e' = .returned (.bool (setB' p.n S)) ∧ Below e.world.heap.size e.world w') := Lib.hid (fun e => rset27_any _ _ p S _ (HP0.out.below e.below) (HM0.out.below e.below))
  by_cases hv : validE p = 0
  case neg =>
    have hve : (validE p == 0) = false := by simp [hv]
    have HN : Hid (unfR p a S = false) := Lib.hid (by rw [HDF.out, decide_eq_false hv]; rfl)
    clear hv
    refine wp_region_ext (by kernel_rfl) (by kernel_rfl) ?_
    repeat (go_big_quiet_step ((first | (go_at_call 15; exact Calls.ext_of (HVC.out _)))))
    refine wpQuiet_nil ?_
    intro w9 hw'
    obtain ⟨e9, he9⟩ := hw'
    have hb9 := e9.below
    rw [← he9] at hb9
    clear he9 e9
    try dsimp only
    go_wp2
    go_ret
    exact ⟨ret_bool HN.out.symm, bon HAL.out hb9⟩
  have HV := Lib.hid hv
  rw [hv] at HVC
  rw [decide_eq_true hv, Bool.true_and] at HDF
  clear hv
  cases hs : setB' p.n S with
  | false =>
    rw [hs] at HSC HDF
    have HN : Hid (unfR p a S = false) := Lib.hid (by rw [HDF.out]; rfl)
    clear hs
    refine wp_region_ext (by kernel_rfl) (by kernel_rfl) ?_
    repeat (go_big_quiet_step ((first | (go_at_call 15; exact Calls.ext_of (HVC.out _)) | (go_at_call 41; exact Calls.ext_of (HSC.out _)))))
    refine wpQuiet_nil ?_
    intro w9 hw'
    obtain ⟨e9, he9⟩ := hw'
    have hb9 := e9.below
    rw [← he9] at hb9
    clear he9 e9
    try dsimp only
    go_wp2
    go_ret
    exact ⟨ret_bool HN.out.symm, bon HAL.out hb9⟩
  | true =>
    rw [hs, Bool.true_and] at HDF
    rw [hs] at HSC
    have HLN : Hid ((falL p a).length ≤ 50000) := Lib.hid (by
      have h1 := falTo_len a (p.n + p.rules.length).toNat
      have h2 := (validP HV.out).n
      have h3 := (validP HV.out).rules
      unfold falL
      omega)
    have HCF : Hid (∀ w, ProgIs w (.agg #[.int .i64 p.n, vn, vs, .slice a1 p.rules.length c1, vmn]) p → Bytes8 w (.slice a2 n2 c2) a → Calls Tryz.prog 32 #[.agg #[.int .i64 p.n, vn, vs, .slice a1 p.rules.length c1, vmn], .slice a2 n2 c2] w fun e w' => ∃ vd, e = .returned vd ∧ (∃ x n c, vd = .slice x n c) ∧ Ints w' vd (falL p a) ∧ Below w.heap.size w w') := Lib.hid (fun w h1 h2 => (rfal_any _ _ p a w h1 h2 HV.out).mono fun e w' ⟨vd, h1, h2, h3⟩ => ⟨vd, h1, h2.form, h2.ints (by have := HLN.out; omega), h3⟩)
    have HCA : Hid (∀ w vd, ProgIs w (.agg #[.int .i64 p.n, vn, vs, .slice a1 p.rules.length c1, vmn]) p → Ints w (.slice a3 S.length c3) S → Ints w vd (falL p a) → Calls Tryz.prog 42 #[.agg #[.int .i64 p.n, vn, vs, .slice a1 p.rules.length c1, vmn], .slice a3 S.length c3, vd] w fun e w' => e = .returned (.bool (allB27 p S (falL p a))) ∧ Below w.heap.size w w') := Lib.hid (fun w vd h1 h2 h3 => rall_any _ _ vd p S _ w h1 h2 h3 HV.out)
    obtain ⟨D, hD⟩ : ∃ D, falL p a = D := ⟨_, rfl⟩
    rw [hD] at HDF HCF HCA
    obtain ⟨bb, hbb⟩ : ∃ b, allB27 p S D = b := ⟨_, rfl⟩
    rw [hbb] at HDF HCA
    clear hs hD hbb HLN
    refine wp_region_perm' (uf27Φ D bb) (fun i => i == 1 || i == 6 || i == 13 || i == 14) (by kernel_rfl) (by kernel_rfl) (by kernel_rfl) (uf27Φ_later _ _) ?_
    iterate 1 (refine walkP_calm rfl rfl rfl (fun K hK => ?_); go_big_quiet_op; refine hK _ ?_; clear hK K)
    refine walkP_mem rfl rfl (fun wa hba hFa => ?_) (fun v lo hi l g h => ?_)
    · go_simp
      exact (HVC.out ⟨_, hba⟩).mono (fun e w2 ⟨h1, h2⟩ => ⟨_, h1, h2, rfl⟩)
    obtain ⟨_, rfl⟩ := h
    simp only [Act.put, List.setIfInBounds_toArray, List.set_cons_succ, List.set_cons_zero]
    iterate 4 (refine walkP_calm rfl rfl rfl (fun K hK => ?_); go_big_quiet_op; refine hK _ ?_; clear hK K)
    refine walkP_mem rfl rfl (fun wa hba hFa => ?_) (fun v lo hi l g h => ?_)
    · go_simp
      exact (HSC.out ⟨_, hba⟩).mono (fun e w2 ⟨h1, h2⟩ => ⟨_, h1, h2, rfl⟩)
    obtain ⟨_, rfl⟩ := h
    simp only [Act.put, List.setIfInBounds_toArray, List.set_cons_succ, List.set_cons_zero]
    iterate 6 (refine walkP_calm rfl rfl rfl (fun K hK => ?_); go_big_quiet_op; refine hK _ ?_; clear hK K)
    refine walkP_mem rfl rfl (fun wa hba hFa => ?_) (fun v lo hi l g h => ?_)
    · go_simp
      exact (HCF.out _ (HP0.out.below hba) (HA0.out.below hba)).mono (fun e w2 ⟨vd, h1, h2, h3, h4⟩ => ⟨_, h1, h4, h2, h3⟩)
    obtain ⟨_, ⟨_, _, _, rfl⟩, -⟩ := h
    simp only [Act.put, List.setIfInBounds_toArray, List.set_cons_succ, List.set_cons_zero]
    refine walkP_mem rfl rfl (fun wa hba hFa => ?_) (fun v lo hi l g h => ?_)
    · have f13 := hFa _ (.head _) (by kernel_rfl)
      obtain ⟨-, f13⟩ := f13
      go_simp
      exact (HCA.out _ _ (HP0.out.below hba) (HM0.out.below hba) f13).mono (fun e w2 ⟨h1, h2⟩ => ⟨_, h1, h2, rfl⟩)
    obtain ⟨_, rfl⟩ := h
    simp only [Act.put, List.setIfInBounds_toArray, List.set_cons_succ, List.set_cons_zero]
    iterate 2 (refine walkP_calm rfl rfl rfl (fun K hK => ?_); go_big_quiet_op; refine hK _ ?_; clear hK K)
    intro wx hbx hF hI hP
    have HBX := Lib.hid hbx
    clear hF hI hP hbx
    go_wp2_with fail
    go_ret
    exact ⟨ret_bool HDF.out.symm, bon HAL.out HBX.out⟩

end Go.Proofs.YtfhpfbakoiekpaaGreatDoor

/- ostlerref26: Models. -/
namespace Go.Proofs.YtfhpfbakoiekpaaGreatDoor
open Go.RowKit

theorem anyR_next (n : Nat) (f : Nat → Bool) : anyR (n + 1) f = (anyR n f || f n) := by
  unfold anyR
  rw [List.range_succ, List.any_append]
  simp

end Go.Proofs.YtfhpfbakoiekpaaGreatDoor

/- ostlerref27: Valid. -/
namespace Go.Proofs.YtfhpfbakoiekpaaGreatDoor
open Go.RowKit

/-- What Valid leans on. -/
structure VdSt (w : World) (cp cc : List Value) (vp vS vl vk : Value) (p : GP) (S : List Int) (c : PBC) (W : World) : Prop where
  pbx : Blk W w.heap.size cp 27
  cbx : Blk W (w.heap.size + 1) cc 30
  prog : ProgIs W vp p
  set : Ints W vS S
  lits : Ints W vl c.lits
  is : PBIs W (.agg #[vl, vk, .int .i64 c.bound]) c
  below : Below w.heap.size w W
theorem VdSt.on {w : World} {cp cc : List Value} {vp vS vl vk : Value} {p : GP} {S : List Int} {c : PBC} {W W' : World} (h : VdSt w cp cc vp vS vl vk p S c W) (hb : Below W.heap.size W W') : VdSt w cp cc vp vS vl vk p S c W' :=
  ⟨h.pbx.below hb, h.cbx.below hb, h.prog.below hb, h.set.below hb, h.lits.below hb, h.is.below hb, bon h.below hb⟩

def someTo (S : List Int) (c : PBC) (k : Nat) : Bool := anyR k (fun j => decide (-(ix S j) ∈ c.lits))
theorem someTo_next (S : List Int) (c : PBC) (k : Nat) : someTo S c (k + 1) = (someTo S c k || decide (-(ix S k) ∈ c.lits)) := anyR_next _ _
def VdRel (w : World) (cp cc : List Value) (vp vS vl vk : Value) (p : GP) (S : List Int) (c : PBC) (W0 : World) (s i : Value) (wx : World) : Prop :=
  ∃ k : Nat, k ≤ S.length ∧ i = .int .i64 k ∧ s = .bool (someTo S c k) ∧ VdSt w cp cc vp vS vl vk p S c wx ∧ Below W0.heap.size W0 wx

set_option maxHeartbeats 4000000 in
set_option maxRecDepth 100000 in
theorem rvld27_any (v vm vc : Value) (p : GP) (S : List Int) (c : PBC) (w : World) (h : ProgIs w v p) (hm : Ints w vm S) (hc : PBIs w vc c) :
    Calls Tryz.prog 12 #[v, vm, vc] w fun e w' => e = .returned (.bool (validR p S c)) ∧ Below w.heap.size w w' := by
  have h0 := h
  have hc0 := hc
  obtain ⟨vn, vs, vr, vmn, rfl, hPS⟩ := h
  obtain ⟨a1, c1, rfl, -, hl1, -, -⟩ := hPS.rules.form
  obtain ⟨a3, c3, rfl, -, hl3, -, hc3⟩ := hm.form
  obtain ⟨vl, vk, rfl, hl, hk, hbd⟩ := hc
  obtain ⟨a4, c4, rfl, -⟩ := hl.form
  obtain ⟨a5, c5, rfl, -⟩ := hk.form
  unfold InI at hbd
  have hal := bal (bal (Below.refl w.heap.size w) (.cells #[.int .i64 p.n, vn, vs, .slice a1 p.rules.length c1, vmn] 27)) (.cells #[.slice a4 c.lits.length c4, .slice a5 c.coefs.length c5, .int .i64 c.bound] 30)
  have hst : VdSt w [.int .i64 p.n, vn, vs, .slice a1 p.rules.length c1, vmn] [.slice a4 c.lits.length c4, .slice a5 c.coefs.length c5, .int .i64 c.bound] (.agg #[.int .i64 p.n, vn, vs, .slice a1 p.rules.length c1, vmn]) (.slice a3 S.length c3) (.slice a4 c.lits.length c4) (.slice a5 c.coefs.length c5) p S c ((w.alloc (.cells #[.int .i64 p.n, vn, vs, .slice a1 p.rules.length c1, vmn] 27)).alloc (.cells #[.slice a4 c.lits.length c4, .slice a5 c.coefs.length c5, .int .i64 c.bound] 30)) :=
    ⟨(Blk.new w [.int .i64 p.n, vn, vs, .slice a1 p.rules.length c1, vmn] _).alloc _, Blk.new2 w _ [.slice a4 c.lits.length c4, .slice a5 c.coefs.length c5, .int .i64 c.bound] _, h0.below hal, hm.below hal, hl.below hal, hc0.below hal, hal⟩
  have HS0 := Lib.hid hst
  have kp0 := hst.pbx.cell
  have kc0 := hst.cbx.cell
  have zp0 := hst.pbx.lt
  have zc0 := hst.cbx.lt
  have HDF : Hid (validR p S c = (decide (validE p = 0) && (setB' p.n S && (pbV c && (decide (c.bound = 1) && (anyR S.length (fun j => decide (-(ix S j) ∈ c.lits)) && allB27 p S c.lits)))))) := Lib.hid rfl
  have HC3 := Lib.hid hc3
  have HNG : Hid (setB' p.n S = true → ∀ j, j < S.length → 1 ≤ ix S j ∧ ix S j ≤ p.n) := Lib.hid (fun h j hj => setB_mem h (ix_mem hj))
  clear h0 hPS hm hl hk hc0 hal hst hc3
  go_enter Tryz.func12, Tryz.ntmps12
  go_upto_region 1 with fail
  generalize (w.alloc (.cells #[.int .i64 p.n, vn, vs, .slice a1 p.rules.length c1, vmn] 27)).alloc (.cells #[.slice a4 c.lits.length c4, .slice a5 c.coefs.length c5, .int .i64 c.bound] 30) = W0 at *
  by_cases hv : validE p = 0
  case neg =>
    have hve : (validE p != 0) = true := by simp [hv]
    have HN : Hid (validR p S c = false) := Lib.hid (by rw [HDF.out, decide_eq_false hv]; rfl)
    clear hv
    go_wp2_with (go_at_call 15; (with_reducible refine (valid_ref _ p _ HS0.out.prog).mono ?_); rintro e w1 ⟨rfl, hb1⟩; have HS1 := Lib.hid (HS0.out.on hb1); have kp1 := HS1.out.pbx.cell; have kc1 := HS1.out.cbx.cell; have zp1 := HS1.out.pbx.lt; have zc1 := HS1.out.cbx.lt; clear hb1)
    go_ret
    exact ⟨ret_bool HN.out.symm, HS1.out.below⟩
  have hve : (validE p != 0) = false := by simp [hv]
  have HV := Lib.hid hv
  rw [decide_eq_true hv, Bool.true_and] at HDF
  have hn0 := (validP hv).n
  clear hv
  cases hs : setB' p.n S with
  | false =>
    rw [hs] at HDF
    have HSE := Lib.hid hs
    have HN : Hid (validR p S c = false) := Lib.hid (by rw [HDF.out]; rfl)
    clear hs
    go_wp2_with (first | (go_at_call 41; (with_reducible refine (rset27_any _ _ p S _ HS1.out.prog HS1.out.set).mono ?_); rintro e w2 ⟨e2, hb2⟩; rw [HSE.out] at e2; subst e2; have HS2 := Lib.hid (HS1.out.on hb2); have kp2 := HS2.out.pbx.cell; have kc2 := HS2.out.cbx.cell; have zp2 := HS2.out.pbx.lt; have zc2 := HS2.out.cbx.lt; clear hb2) | (go_at_call 15; (with_reducible refine (valid_ref _ p _ HS0.out.prog).mono ?_); rintro e w1 ⟨rfl, hb1⟩; have HS1 := Lib.hid (HS0.out.on hb1); have kp1 := HS1.out.pbx.cell; have kc1 := HS1.out.cbx.cell; have zp1 := HS1.out.pbx.lt; have zc1 := HS1.out.cbx.lt; clear hb1))
    go_ret
    exact ⟨ret_bool HN.out.symm, HS2.out.below⟩
  | true =>
    rw [hs, Bool.true_and] at HDF
    have HSE := Lib.hid hs
    have HR := Lib.hid (HNG.out hs)
    clear hs HNG
    cases hp : pbV c with
    | false =>
      rw [hp] at HDF
      have HPV := Lib.hid hp
      have HN : Hid (validR p S c = false) := Lib.hid (by rw [HDF.out]; rfl)
      clear hp
      go_wp2_with (first | (go_at_call 47; (with_reducible refine (rvalid24_any _ c _ HS2.out.is).mono ?_); rintro e w3 ⟨e3, hb3⟩; rw [HPV.out] at e3; subst e3; have HS3 := Lib.hid (HS2.out.on hb3); have kp3 := HS3.out.pbx.cell; have kc3 := HS3.out.cbx.cell; have zp3 := HS3.out.pbx.lt; have zc3 := HS3.out.cbx.lt; clear hb3) | (go_at_call 41; (with_reducible refine (rset27_any _ _ p S _ HS1.out.prog HS1.out.set).mono ?_); rintro e w2 ⟨e2, hb2⟩; rw [HSE.out] at e2; subst e2; have HS2 := Lib.hid (HS1.out.on hb2); have kp2 := HS2.out.pbx.cell; have kc2 := HS2.out.cbx.cell; have zp2 := HS2.out.pbx.lt; have zc2 := HS2.out.cbx.lt; clear hb2) | (go_at_call 15; (with_reducible refine (valid_ref _ p _ HS0.out.prog).mono ?_); rintro e w1 ⟨rfl, hb1⟩; have HS1 := Lib.hid (HS0.out.on hb1); have kp1 := HS1.out.pbx.cell; have kc1 := HS1.out.cbx.cell; have zp1 := HS1.out.pbx.lt; have zc1 := HS1.out.cbx.lt; clear hb1))
      go_ret
      exact ⟨ret_bool HN.out.symm, HS3.out.below⟩
    | true =>
      rw [hp, Bool.true_and] at HDF
      have HPV := Lib.hid hp
      clear hp
      by_cases hb1 : c.bound = 1
      case neg =>
        have hb2 : (c.bound != 1) = true := by simp [hb1]
        have HN : Hid (validR p S c = false) := Lib.hid (by rw [HDF.out, decide_eq_false hb1]; rfl)
        clear hb1
        go_wp2_with (first | (go_at_call 47; (with_reducible refine (rvalid24_any _ c _ HS2.out.is).mono ?_); rintro e w3 ⟨e3, hb3⟩; rw [HPV.out] at e3; subst e3; have HS3 := Lib.hid (HS2.out.on hb3); have kp3 := HS3.out.pbx.cell; have kc3 := HS3.out.cbx.cell; have zp3 := HS3.out.pbx.lt; have zc3 := HS3.out.cbx.lt; clear hb3) | (go_at_call 41; (with_reducible refine (rset27_any _ _ p S _ HS1.out.prog HS1.out.set).mono ?_); rintro e w2 ⟨e2, hb2⟩; rw [HSE.out] at e2; subst e2; have HS2 := Lib.hid (HS1.out.on hb2); have kp2 := HS2.out.pbx.cell; have kc2 := HS2.out.cbx.cell; have zp2 := HS2.out.pbx.lt; have zc2 := HS2.out.cbx.lt; clear hb2) | (go_at_call 15; (with_reducible refine (valid_ref _ p _ HS0.out.prog).mono ?_); rintro e w1 ⟨rfl, hb1⟩; have HS1 := Lib.hid (HS0.out.on hb1); have kp1 := HS1.out.pbx.cell; have kc1 := HS1.out.cbx.cell; have zp1 := HS1.out.pbx.lt; have zc1 := HS1.out.cbx.lt; clear hb1))
        go_ret
        exact ⟨ret_bool HN.out.symm, HS3.out.below⟩
      have hb2 : (c.bound != 1) = false := by simp [hb1]
      rw [decide_eq_true hb1, Bool.true_and] at HDF
      have HDF' : Hid (validR p S c = (someTo S c S.length && allB27 p S c.lits)) := Lib.hid HDF.out
      clear hb1 HDF
      go_upto_region 5 with (first | (go_at_call 47; (with_reducible refine (rvalid24_any _ c _ HS2.out.is).mono ?_); rintro e w3 ⟨e3, hb3⟩; rw [HPV.out] at e3; subst e3; have HS3 := Lib.hid (HS2.out.on hb3); have kp3 := HS3.out.pbx.cell; have kc3 := HS3.out.cbx.cell; have zp3 := HS3.out.pbx.lt; have zc3 := HS3.out.cbx.lt; clear hb3) | (go_at_call 41; (with_reducible refine (rset27_any _ _ p S _ HS1.out.prog HS1.out.set).mono ?_); rintro e w2 ⟨e2, hb2⟩; rw [HSE.out] at e2; subst e2; have HS2 := Lib.hid (HS1.out.on hb2); have kp2 := HS2.out.pbx.cell; have kc2 := HS2.out.cbx.cell; have zp2 := HS2.out.pbx.lt; have zc2 := HS2.out.cbx.lt; clear hb2) | (go_at_call 15; (with_reducible refine (valid_ref _ p _ HS0.out.prog).mono ?_); rintro e w1 ⟨rfl, hb1⟩; have HS1 := Lib.hid (HS0.out.on hb1); have kp1 := HS1.out.pbx.cell; have kc1 := HS1.out.cbx.cell; have zp1 := HS1.out.pbx.lt; have zc1 := HS1.out.cbx.lt; clear hb1))
      have HB03 := Lib.hid HS3.out.below
      clear kp0 kc0 kp1 kc1 kp2 kc2 kp3 kc3 zp0 zc0 zp1 zc1 zp2 zc2 hb2
      go_loopw [7, 8] (fun s i wx => VdRel w [.int .i64 p.n, vn, vs, .slice a1 p.rules.length c1, vmn] [.slice a4 c.lits.length c4, .slice a5 c.coefs.length c5, .int .i64 c.bound] (.agg #[.int .i64 p.n, vn, vs, .slice a1 p.rules.length c1, vmn]) (.slice a3 S.length c3) (.slice a4 c.lits.length c4) (.slice a5 c.coefs.length c5) p S c w3 s i wx) (fun _ i _ => S.length - (intOf i).toNat)
      case atStart => exact ⟨0, Nat.zero_le _, rfl, rfl, HS3.out, Below.refl _ _⟩
      case round =>
        obtain ⟨k, hk, rfl, rfl, hst, hb⟩ := hrel
        have HST := Lib.hid hst
        have HB := Lib.hid hb
        have kp := hst.pbx.cell
        have kc := hst.cbx.cell
        have zp := hst.pbx.lt
        have zc := hst.cbx.lt
        by_cases hlt : k < S.length
        · obtain ⟨b, o, e3, hbw, hck⟩ := hst.set.at hlt
          subst e3
          have hx := HR.out k hlt
          have HNX := Lib.hid (someTo_next S c k)
          have q1 : ∀ e : Ext wr, e.world.cell? ⟨b, o + k, none⟩ = some (.int .i64 (ix S k)) := fun e => (bcell e.below _ _ hbw).trans hck
          have q2 : ∀ e : Ext wr, ∀ o, e.world.cell? ⟨w.heap.size + 1, o, none⟩ = _ := fun e o => (bcell e.below _ o zc).trans (hst.cbx.cell o)
          have hwn : IntKind.i64.wrap (-(ix S k)) = -(ix S k) := by rw [IntKind.wrap_i64]; omega
          have HIN : Hid (∀ e : Ext wr, Calls Tryz.prog 31 #[.slice a4 c.lits.length c4, .int .i64 (-(ix S k))] e.world fun e' w' => e' = .returned (.bool (decide (-(ix S k) ∈ c.lits))) ∧ e.world = w') := Lib.hid (fun e => in_any _ _ _ (HST.out.lits.below e.below) _)
          clear hst hb hck
          cases hs : someTo S c k with
          | true =>
            rw [hs] at HNX
            clear hs
            go_wp2
            refine wp_region_ext (by kernel_rfl) (by kernel_rfl) ?_
            repeat (go_big_quiet_step (fail))
            refine wpQuiet_nil ?_
            intro w9 hw'
            obtain ⟨e9, he9⟩ := hw'
            have hb9 := e9.below
            rw [← he9] at hb9
            clear he9 e9
            try dsimp only
            go_wp2
            first
              | (go_roundw
                 case rel => (exact ⟨k + 1, hlt, by go_num, by rw [HNX.out]; rfl, HST.out.on hb9, bon HB.out hb9⟩)
                 case measure => (simp [intOf]; omega))
              | (refine ⟨?_, ?_⟩
                 · (exact ⟨k + 1, hlt, by go_num, by rw [HNX.out]; rfl, HST.out.on hb9, bon HB.out hb9⟩)
                 · (simp [intOf]; omega))
          | false =>
            rw [hs, Bool.false_or] at HNX
            clear hs
            obtain ⟨bb, hbb⟩ : ∃ q, decide (-(ix S k) ∈ c.lits) = q := ⟨_, rfl⟩
            rw [hbb] at HNX HIN
            clear hbb
            go_wp2
            refine wp_region_ext (by kernel_rfl) (by kernel_rfl) ?_
            repeat (go_big_quiet_step ((go_at_call 31; exact Calls.ext_of_same (HIN.out _))))
            refine wpQuiet_nil ?_
            intro w9 hw'
            obtain ⟨e9, he9⟩ := hw'
            have hb9 := e9.below
            rw [← he9] at hb9
            clear he9 e9
            try dsimp only
            go_wp2
            first
              | (go_roundw
                 case rel => (exact ⟨k + 1, hlt, by go_num, by rw [HNX.out], HST.out.on hb9, bon HB.out hb9⟩)
                 case measure => (simp [intOf]; omega))
              | (refine ⟨?_, ?_⟩
                 · (exact ⟨k + 1, hlt, by go_num, by rw [HNX.out], HST.out.on hb9, bon HB.out hb9⟩)
                 · (simp [intOf]; omega))
        · obtain rfl : k = S.length := by omega
          clear hst hb
          cases hs : someTo S c S.length with
          | false =>
            rw [hs] at HDF'
            clear hs
            go_wp2
            go_ret
            exact ⟨ret_bool HDF'.out.symm, HST.out.below⟩
          | true =>
            rw [hs, Bool.true_and] at HDF'
            clear hs
            go_wp2_with (go_at_call 42; (with_reducible refine (rall_any _ _ _ p S c.lits _ HST.out.prog HST.out.set HST.out.lits HV.out).mono ?_); rintro e w9 ⟨rfl, hb9⟩; have HS9 := Lib.hid (HST.out.on hb9); clear hb9)
            go_ret
            exact ⟨ret_bool HDF'.out.symm, HS9.out.below⟩

end Go.Proofs.YtfhpfbakoiekpaaGreatDoor

/- ostlerref24.Clause: its contract. -/
namespace Go.Proofs.YtfhpfbakoiekpaaGreatDoor
open Go.RowKit

/-! ### Membership by steps -/
def memTo (T : List Int) (x : Int) : Nat → Bool
  | 0 => false
  | j + 1 => memTo T x j || decide (ix T j = x)

theorem memTo_iff {T : List Int} {x : Int} : ∀ j : Nat, j ≤ T.length → (memTo T x j = true ↔ ∃ i, i < j ∧ ix T i = x)
  | 0, _ => by simp [memTo]
  | j + 1, hj => by
    have ih := memTo_iff (T := T) (x := x) j (by omega)
    unfold memTo
    rw [Bool.or_eq_true, ih, decide_eq_true_eq]
    constructor
    · rintro (⟨i, h1, h2⟩ | h)
      · exact ⟨i, by omega, h2⟩
      · exact ⟨j, by omega, h⟩
    · rintro ⟨i, h1, h2⟩
      by_cases e : i = j
      · exact .inr (e ▸ h2)
      · exact .inl ⟨i, by omega, h2⟩

theorem memTo_all (T : List Int) (x : Int) : memTo T x T.length = decide (x ∈ T) := by
  have h := memTo_iff (T := T) (x := x) T.length (Nat.le_refl _)
  rw [← mem_ix_iff] at h
  by_cases hx : x ∈ T
  · rw [decide_eq_true hx]; exact h.2 hx
  · rw [decide_eq_false hx]
    cases e : memTo T x T.length with
    | false => rfl
    | true => exact absurd (h.1 e) hx

theorem ones_snoc (n : Nat) : ones n ++ [1] = ones (n + 1) := by
  unfold ones
  rw [List.replicate_succ']
theorem ones_len (n : Nat) : (ones n).length = n := by simp [ones]

/-! ### Two rows that grow side by side -/
structure RD (w : World) (vo vn : Value) (T U : List Int) (wx : World) : Prop where
  ro : QRow (w.heap.size + 1) wx vo T
  rn : QRow (w.heap.size + 1) wx vn U
  far : Far vo vn
  box : Blk wx w.heap.size pbZ 30
  below : Below w.heap.size w wx

section
variable {w wx wy : World} {vo vn vo' vn' : Value} {T U T' U' : List Int}
theorem RD.on (h : RD w vo vn T U wx) (hb : Below wx.heap.size wx wy) : RD w vo vn T U wy :=
  ⟨h.ro.below hb, h.rn.below hb, h.far, h.box.below hb, bon h.below hb⟩
theorem RD.alloc (h : RD w vo vn T U wx) (o : Obj) : RD w vo vn T U (wx.alloc o) := h.on (bal (Below.refl wx.heap.size wx) o)
theorem RD.app1 (h : RD w vo vn T U wx) (hq : QRow (w.heap.size + 1) wy vo' T') (hg : wx.grownBy wy vo.ownBlock) (ho : vo'.ownBlock = vo.ownBlock ∨ vo'.ownBlock = some wx.heap.size) : RD w vo' vn T' U wy := by
  have hlt := h.box.lt
  refine ⟨hq, h.rn.kept fun i h1 h2 h3 => hg.block i h2 (fun e => h.far i e.symm h3), fun g e e2 => ?_, h.box.same (hg.block _ hlt (fun e => by have := (h.ro.base e.symm).1; omega)), h.below.trans (below_row hg (by omega) (fun g e => by have := (h.ro.base e).1; omega))⟩
  rcases ho with h1 | h1
  · exact h.far g (h1 ▸ e) e2
  · rw [h1] at e
    have := (h.rn.base e2).2
    have := Option.some.inj e
    omega
theorem RD.app2 (h : RD w vo vn T U wx) (hq : QRow (w.heap.size + 1) wy vn' U') (hg : wx.grownBy wy vn.ownBlock) (ho : vn'.ownBlock = vn.ownBlock ∨ vn'.ownBlock = some wx.heap.size) : RD w vo vn' T U' wy := by
  have hlt := h.box.lt
  refine ⟨h.ro.kept fun i h1 h2 h3 => hg.block i h2 (fun e => h.far i h3 e.symm), hq, fun g e e2 => ?_, h.box.same (hg.block _ hlt (fun e => by have := (h.rn.base e.symm).1; omega)), h.below.trans (below_row hg (by omega) (fun g e => by have := (h.rn.base e).1; omega))⟩
  rcases ho with h1 | h1
  · exact h.far g e (h1 ▸ e2)
  · rw [h1] at e2
    have := (h.ro.base e).2
    have := Option.some.inj e2
    omega
end

def Rc1Rel (L : List Int) (w : World) (vo vn i : Value) (wx : World) : Prop :=
  ∃ k : Nat, k ≤ L.length ∧ i = .int .i64 k ∧ RD w vo vn (onceTo L k) (ones (onceTo L k).length) wx
def Rc2Rel (T U : List Int) (x : Int) (w : World) (vo vn : Value) (m j : Value) (wx : World) : Prop :=
  ∃ i : Nat, i ≤ T.length ∧ j = .int .i64 i ∧ m = .bool (memTo T x i) ∧ RD w vo vn T U wx

set_option maxHeartbeats 4000000 in
set_option maxRecDepth 100000 in
theorem rclause_any (v : Value) (L : List Int) (w : World) (h : Ints w v L) (hl : L.length ≤ 65536) :
    Calls Tryz.prog 35 #[v] w fun e w' => ∃ vp, e = .returned (.tuple #[vp, .int .i64 (refClause L).2]) ∧ PBQ w.heap.size w' vp (refClause L).1 ∧ Below w.heap.size w w' := by
  have HI := Lib.hid h
  obtain ⟨a1, c1, rfl, -, hl1, -, hcell⟩ := h.form
  have HC := Lib.hid hcell
  have hS0 : RD w (.slice none 0 0) (.slice none 0 0) (onceTo L 0) (ones (onceTo L 0).length) (w.alloc (.cells #[.slice none 0 0, .slice none 0 0, .int .i64 0] 30)) := ⟨QRow.nil _ _, QRow.nil _ _, fun g e => by (cases e), Blk.new w pbZ _, bal (Below.refl w.heap.size w) _⟩
  have HS0 := Lib.hid hS0
  clear h hcell hS0
  go_enter Tryz.func35, Tryz.ntmps35
  go_upto_region 3 with fail
  generalize w.alloc (.cells #[.slice none 0 0, .slice none 0 0, .int .i64 0] 30) = W0 at *
  go_loopw [4, 5, 6] (fun o n i wx => Rc1Rel L w o n i wx) (fun _ _ i _ => L.length - (intOf i).toNat)
  case atStart => exact ⟨0, Nat.zero_le _, rfl, HS0.out⟩
  case round =>
    obtain ⟨k, hk, rfl, hst⟩ := hrel
    have HS := Lib.hid hst
    have hTl := onceTo_len L k
    obtain ⟨ao, co, rfl⟩ := hst.ro.slen
    obtain ⟨an, cn, rfl⟩ := hst.rn.slen
    have HON : Hid (onceTo L (k + 1) = if ix L k ∈ onceTo L k then onceTo L k else onceTo L k ++ [ix L k]) := Lib.hid rfl
    have HFI : Hid (k = L.length → refClause L = normP (onceTo L k) (ones (onceTo L k).length) 1) := Lib.hid (fun e => by rw [e]; rfl)
    have HUL := Lib.hid (ones_len (onceTo L k).length)
    clear hst
    by_cases hlt : k < L.length
    · obtain ⟨b1, o1, rfl, hb1', hc1⟩ := HC.out (by omega)
      have HCK := Lib.hid (hc1 k hlt)
      have HXI : Hid (InI (ix L k)) := Lib.hid (HI.out.2 k)
      clear hc1 HFI
      generalize onceTo L k = T at *
      generalize hU : ones T.length = U at *
      have HU := Lib.hid hU
      clear hU
      go_upto_region 7 with fail
      have HS5 := Lib.hid HS.out
      clear HS
      generalize wr = wq at *
      go_loopw [7, 8] (fun m j wx => Rc2Rel T U (ix L k) w (.slice ao T.length co) (.slice an U.length cn) m j wx) (fun _ j _ => T.length - (intOf j).toNat)
      case atStart => exact ⟨0, Nat.zero_le _, rfl, rfl, HS5.out⟩
      case round =>
        obtain ⟨j, hj, rfl, rfl, hst⟩ := hrel
        have HS := Lib.hid hst
        have hbl := hst.below
        have hzz := hst.box.lt
        have HM := Lib.hid (show memTo T (ix L k) (j + 1) = (memTo T (ix L k) j || decide (ix T j = ix L k)) from rfl)
        have HMA : Hid (j = T.length → memTo T (ix L k) j = decide (ix L k ∈ T)) := Lib.hid (fun e => by rw [e, memTo_all])
        by_cases hjl : j < T.length
        · obtain ⟨b0, o0, rfl, hb0, hk0⟩ := (hst.ro.ints (by omega)).at hjl
          have hl1' : b1 < wr.heap.size := by omega
          have hk1 := (bcell hbl _ _ hb1').trans HCK.out
          have q1 : ∀ e : Ext wr, e.world.cell? ⟨b0, o0 + j, none⟩ = some (.int .i64 (ix T j)) := fun e => (bcell e.below _ _ hb0).trans hk0
          have q2 : ∀ e : Ext wr, e.world.cell? ⟨b1, o1 + k, none⟩ = some (.int .i64 (ix L k)) := fun e => (bcell e.below _ _ hl1').trans hk1
          clear hst hbl hk0 hk1
          cases hm : memTo T (ix L k) j with
          | true =>
            rw [hm] at HM
            clear hm HMA
            go_wp2
            refine wp_region_ext (by kernel_rfl) (by kernel_rfl) ?_
            repeat (go_big_quiet_step (fail))
            refine wpQuiet_nil ?_
            intro w9 hw'
            obtain ⟨e9, he9⟩ := hw'
            have hb9 := e9.below
            rw [← he9] at hb9
            clear he9 e9
            try dsimp only
            go_wp2
            first
              | (go_roundw
                 case rel => (exact ⟨j + 1, hjl, by go_num, by rw [HM.out]; rfl, HS.out.on hb9⟩)
                 case measure => (simp [intOf]; omega))
              | (refine ⟨?_, ?_⟩
                 · (exact ⟨j + 1, hjl, by go_num, by rw [HM.out]; rfl, HS.out.on hb9⟩)
                 · (simp [intOf]; omega))
          | false =>
            rw [hm] at HM
            clear hm HMA
            by_cases g1 : ix T j = ix L k
            · rw [decide_eq_true g1] at HM
              go_wp2
              refine wp_region_ext (by kernel_rfl) (by kernel_rfl) ?_
              repeat (go_big_quiet_step (fail))
              refine wpQuiet_nil ?_
              intro w9 hw'
              obtain ⟨e9, he9⟩ := hw'
              have hb9 := e9.below
              rw [← he9] at hb9
              clear he9 e9
              try dsimp only
              go_wp2
              first
                | (go_roundw
                   case rel => (exact ⟨j + 1, hjl, by go_num, by rw [HM.out]; rfl, HS.out.on hb9⟩)
                   case measure => (simp [intOf]; omega))
                | (refine ⟨?_, ?_⟩
                   · (exact ⟨j + 1, hjl, by go_num, by rw [HM.out]; rfl, HS.out.on hb9⟩)
                   · (simp [intOf]; omega))
            · rw [decide_eq_false g1] at HM
              go_wp2
              refine wp_region_ext (by kernel_rfl) (by kernel_rfl) ?_
              repeat (go_big_quiet_step (fail))
              refine wpQuiet_nil ?_
              intro w9 hw'
              obtain ⟨e9, he9⟩ := hw'
              have hb9 := e9.below
              rw [← he9] at hb9
              clear he9 e9
              try dsimp only
              go_wp2
              first
                | (go_roundw
                   case rel => (exact ⟨j + 1, hjl, by go_num, by simp [HM.out, g1], HS.out.on hb9⟩)
                   case measure => (simp [intOf]; omega))
                | (refine ⟨?_, ?_⟩
                   · (exact ⟨j + 1, hjl, by go_num, by simp [HM.out, g1], HS.out.on hb9⟩)
                   · (simp [intOf]; omega))
        · obtain rfl : j = T.length := by omega
          rw [HMA.out rfl]
          have hk1 := (bcell hbl _ _ hb1').trans HCK.out
          clear hst hbl HMA HM
          by_cases hin : ix L k ∈ T
          · rw [decide_eq_true hin]
            have HN : Hid (onceTo L (k + 1) = T) := Lib.hid (by rw [HON.out, if_pos hin])
            clear hin HON
            go_wp2
            first
              | (go_roundw
                 case rel => (exact ⟨k + 1, hlt, by go_num, by rw [HN.out, HU.out]; exact HS.out⟩)
                 case measure => (simp [intOf]; omega))
              | (refine ⟨?_, ?_⟩
                 · (exact ⟨k + 1, hlt, by go_num, by rw [HN.out, HU.out]; exact HS.out⟩)
                 · (simp [intOf]; omega))
          · rw [decide_eq_false hin]
            have HN : Hid (onceTo L (k + 1) = T ++ [ix L k]) := Lib.hid (by rw [HON.out, if_neg hin])
            have HN2 : Hid (ones (T ++ [ix L k]).length = U ++ [1]) := Lib.hid (by rw [← HU.out, ones_snoc, List.length_append]; rfl)
            have h1I : InI 1 := by unfold InI; omega
            have HA := Lib.hid (HS.out.alloc (.cells #[.int .i64 (ix L k)] 3))
            clear hin HON
            go_wp2_with (first
              | (at_builtin; refine wpList_appendQ rfl _ _ 23 Tryz.underlying23 rfl (w.heap.size + 1) _ U 1 rfl HA5.out.rn w4.heap.size 1 rfl (Blk.new w4 [.int .i64 1] _) h1I (by have := HUL.out; omega) (by simp; omega) ?_; intro v5 w5 hq5 hg5 ho5; have HS5 := Lib.hid (HA5.out.app2 hq5 hg5 ho5); obtain ⟨av5, nv5, cv5, rfl⟩ := hq5.form; clear hq5 hg5 ho5)
              | (at_builtin; refine wpList_appendQ rfl _ _ 23 Tryz.underlying23 rfl (w.heap.size + 1) _ T (ix L k) rfl HA.out.ro wr.heap.size 1 rfl (Blk.new wr [.int .i64 (ix L k)] _) HXI.out (by omega) (by simp; omega) ?_; intro v4 w4 hq4 hg4 ho4; have HS4 := Lib.hid (HA.out.app1 hq4 hg4 ho4); have hz4 := HS4.out.below.size; have HA5 := Lib.hid (HS4.out.alloc (.cells #[.int .i64 1] 3)); have hz5 := HS4.out.box.lt; obtain ⟨av4, nv4, cv4, rfl⟩ := hq4.form; clear hq4 hg4 ho4))
            first
              | (go_roundw
                 case rel => (exact ⟨k + 1, hlt, by go_num, by rw [HN.out, HN2.out]; exact HS5.out⟩)
                 case measure => (simp [intOf]; omega))
              | (refine ⟨?_, ?_⟩
                 · (exact ⟨k + 1, hlt, by go_num, by rw [HN.out, HN2.out]; exact HS5.out⟩)
                 · (simp [intOf]; omega))
    · obtain rfl : k = L.length := by omega
      have HF := Lib.hid (HFI.out rfl)
      have HS2 := Lib.hid HS.out
      have kx := HS.out.box.cell
      have kf := HS.out.box.free
      have hz := HS.out.box.lt
      have HIO := HS.out.ro.ints (by omega)
      have HIN := HS.out.rn.ints (by have := HUL.out; omega)
      have HR := Lib.hid (rnorm_any _ _ _ _ 1 wr HIO HIN (by unfold InI; omega))
      rw [← HF.out] at HR
      clear HIO HIN HS HFI HON
      clear kx kf HUL
      go_wp2_with (go_at_call 94; (with_reducible refine (HR.out).mono ?_); rintro e w1 ⟨vp, rfl, ⟨ul, uk, rfl, hq1, hq2, hq3, hq4, hq5⟩, hb1⟩; have HB1 := Lib.hid (bon HS2.out.below hb1); have HBX := Lib.hid (HS2.out.box.below hb1); have kx := HBX.out.cell; have kf := HBX.out.free; have HQ1 := Lib.hid hq1; have HQ2 := Lib.hid hq2; have HQ3 := Lib.hid hq3; have HQ4 := Lib.hid hq4; have HQ5 := Lib.hid hq5; obtain ⟨au, cu, rfl⟩ := hq1.slen; obtain ⟨at', ct, rfl⟩ := hq2.slen; clear hq1 hq2 hq3 hq4 hq5 hb1)
      have hQ1 := HQ1.out
      have hQ2 := HQ2.out
      refine bodyPost_ret (v := .tuple #[.agg #[.slice au (refClause L).1.lits.length cu, .slice at' (refClause L).1.coefs.length ct, .int .i64 (refClause L).1.bound], .int .i64 (refClause L).2]) (by simp [results, Tryz.f35, go_sem, *]) rfl ⟨_, rfl, ⟨_, _, rfl, (row3 hQ1 w.heap.size (by omega) _ _ _).mono (by omega), (row3 hQ2 w.heap.size (by omega) _ _ _).mono (by omega), HQ3.out, HQ4.out, HQ5.out⟩, below3 HB1.out _ (Nat.le_refl _) _ _ _⟩

end Go.Proofs.YtfhpfbakoiekpaaGreatDoor
