/- My texts Ref17b, Ref17c, Ref17d, merged. -/
import Derived.Test.YtfhpfbakoiekpaaGreatDoorM17
import Derived.Deep.DeepCutAuto
import Derived.Test.YtfhpfbakoiekpaaGreatDoorM04

/- ostlerref17.lits, ostlerref17.total, ostlerref17.Rule. -/
namespace Go.Proofs.YtfhpfbakoiekpaaGreatDoor
open Go.RowKit


set_option maxHeartbeats 2000000 in
theorem lits_ref (v : Value) (l : List Int) (n : Int) (w : World) (h : Ints w v l) (hn : 0 ≤ n ∧ n ≤ 4000) :
    Calls Tryz.prog 54 #[v, .int .i64 n] w fun e w' => e = .returned (.bool (orderedB l n)) ∧ Below w.heap.size w w' := by
  have HE : Hid (orderedB l n = allR l.length (okAt l n)) := Lib.hid rfl
  obtain ⟨a, c, rfl, -, hl, -, hcell⟩ := h.form
  have HFI := Lib.hid h.2
  clear h
  go_enter Tryz.func54, Tryz.ntmps54
  go_wp2
  go_loopw [5] (fun i wx => AtRel l (okAt l n) w i wx) (fun i _ => l.length - (intOf i).toNat)
  case atStart => exact ⟨0, by omega, rfl, fun j hj => absurd hj (Nat.not_lt_zero _), Below.refl _ _⟩
  case round =>
    obtain ⟨k, hk, rfl, hall, hb⟩ := hrel
    have HA := Lib.hid hall
    clear hall
    by_cases hlt : k < l.length
    · obtain ⟨b, off, rfl, hbl, hc⟩ := hcell (by omega)
      have hlr : b < wr.heap.size := Nat.lt_of_lt_of_le hbl hb.size
      have kk : wr.cell? ⟨b, off + k, none⟩ = some (.int .i64 (ix l k)) := (bcell hb _ _ hbl).trans (hc k hlt)
      have k1 : ∀ e : Ext wr, e.world.cell? ⟨b, off + k, none⟩ = some (.int .i64 (ix l k)) := fun e => (bcell e.below _ _ hlr).trans kk
      have HK := Lib.hid (show okAt l n k = (litB (ix l k) n && (k == 0 || decide (ordI (ix l (k - 1)) (ix l k) < 0))) from rfl)
      have HB : Hid (okAt l n k = false → orderedB l n = false) := Lib.hid (fun h => by rw [HE.out]; exact allR_false k hlt h)
      have HG : Hid (okAt l n k = true → ∀ j, j < k + 1 → okAt l n j = true) := Lib.hid (fun h => lt_succ_all HA.out h)
      have hf := HFI.out k
      by_cases c0 : ix l k = 0 ∨ n < ix l k ∨ ix l k < -n
      · have HF := Lib.hid (HB.out (by rw [HK.out, show litB (ix l k) n = false from decide_eq_false (by omega)]; rfl))
        clear hc k1
        rcases c0 with c0 | c0 | c0
        · have d0 : (ix l k == 0) = true := beq_iff_eq.2 c0
          rw [c0] at kk
          clear d0 c0
          go_wp2
          go_ret
          exact ⟨ret_bool HF.out.symm, hb⟩
        · have d0 : (ix l k == 0) = false := beq_eq_false_iff_ne.2 (by omega)
          go_wp2
          go_ret
          exact ⟨ret_bool HF.out.symm, hb⟩
        · have d0 : (ix l k == 0) = false := beq_eq_false_iff_ne.2 (by omega)
          go_wp2
          go_ret
          exact ⟨ret_bool HF.out.symm, hb⟩
      · have d0 : (ix l k == 0) = false := beq_eq_false_iff_ne.2 (by omega)
        have c1 : -n ≤ ix l k ∧ ix l k ≤ n := by omega
        have HL : Hid (litB (ix l k) n = true) := Lib.hid (decide_eq_true (by omega))
        by_cases c3 : k = 0
        · subst c3
          have k10 : ∀ e : Ext wr, e.world.cell? ⟨b, off, none⟩ = some (.int .i64 (ix l 0)) := k1
          have kk0 : wr.cell? ⟨b, off, none⟩ = some (.int .i64 (ix l 0)) := kk
          have HN := Lib.hid (HG.out (by rw [HK.out, HL.out]; rfl))
          clear hc c0
          go_wp2
          refine wp_region_ext (by kernel_rfl) (by kernel_rfl) ?_
          repeat (go_big_quiet_step (fail))
          refine wpQuiet_nil ?_
          intro _ hw'
          obtain ⟨⟨w9, hb9⟩, rfl⟩ := hw'
          try dsimp only
          go_wp2
          first
            | (go_roundw
               case rel => (exact ⟨1, by omega, by go_num, HN.out, bon hb hb9⟩)
               case measure => (simp [intOf]; omega))
            | (refine ⟨?_, ?_⟩
               · (exact ⟨1, by omega, by go_num, HN.out, bon hb hb9⟩)
               · (simp [intOf]; omega))
        · have c3' : 0 < k := by omega
          have d3 : decide (0 < k) = true := decide_eq_true c3'
          have k2 : ∀ e : Ext wr, e.world.cell? ⟨b, off + (k - 1), none⟩ = some (.int .i64 (ix l (k - 1))) := fun e => (bcell e.below _ _ hlr).trans ((bcell hb _ _ hbl).trans (hc (k - 1) (by omega)))
          have hprev := HA.out (k - 1) (by omega)
          simp only [okAt, litB, Bool.and_eq_true, decide_eq_true_eq] at hprev
          have c2 : -n ≤ ix l (k - 1) ∧ ix l (k - 1) ≤ n := ⟨hprev.1.2.1, hprev.1.2.2⟩
          clear hc c0 hprev
          cases c4 : decide (ordI (ix l (k - 1)) (ix l k) < 0) with
          | true =>
            have HN := Lib.hid (HG.out (by rw [HK.out, HL.out, c4]; simp))
            have HBF : Hid (∀ e : Ext wr, Calls Tryz.prog 106 #[.int .i64 (ix l (k - 1)), .int .i64 (ix l k)] e.world fun x w' => x = .returned (.bool true) ∧ e.world = w') := Lib.hid (fun e => by
              rw [← c4]; exact before_any _ _ _ (by omega) (by omega))
            go_wp2
            refine wp_region_ext (by kernel_rfl) (by kernel_rfl) ?_
            repeat (go_big_quiet_step ((first | (go_at_call 106; exact Calls.ext_of_same (HBF.out _)))))
            refine wpQuiet_nil ?_
            intro _ hw'
            obtain ⟨⟨w9, hb9⟩, rfl⟩ := hw'
            try dsimp only
            go_wp2
            first
              | (go_roundw
                 case rel => (exact ⟨k + 1, by omega, by go_num, HN.out, bon hb hb9⟩)
                 case measure => (simp [intOf]; omega))
              | (refine ⟨?_, ?_⟩
                 · (exact ⟨k + 1, by omega, by go_num, HN.out, bon hb hb9⟩)
                 · (simp [intOf]; omega))
          | false =>
            have HF := Lib.hid (HB.out (by rw [HK.out, HL.out, c4, show (k == 0) = false from beq_eq_false_iff_ne.2 c3]; rfl))
            have HBF : Hid (∀ e : Ext wr, Calls Tryz.prog 106 #[.int .i64 (ix l (k - 1)), .int .i64 (ix l k)] e.world fun x w' => x = .returned (.bool false) ∧ e.world = w') := Lib.hid (fun e => by
              rw [← c4]; exact before_any _ _ _ (by omega) (by omega))
            go_wp2
            refine wp_region_ext (by kernel_rfl) (by kernel_rfl) ?_
            repeat (go_big_quiet_step ((first | (go_at_call 106; exact Calls.ext_of_same (HBF.out _)))))
            refine wpQuiet_nil ?_
            intro _ hw'
            obtain ⟨⟨w9, hb9⟩, rfl⟩ := hw'
            try dsimp only
            go_wp2
            go_ret
            exact ⟨ret_bool HF.out.symm, bon hb hb9⟩
    · have HF : Hid (orderedB l n = true) := Lib.hid (by rw [HE.out]; exact allR_true (fun j hj => HA.out j (by omega)))
      go_wp2
      go_ret
      exact ⟨ret_bool HF.out.symm, hb⟩

def totI (l : List Int) : Int := if weightsB l l.length then sumTo l l.length else -1
def TotPost (l : List Int) (w : World) (e : Ending) (w' : World) : Prop := e = .returned (.int .i64 (totI l)) ∧ w = w'

theorem weights_sum' {l : List Int} {n : Int} (h : weightsB l n = true) : (∀ k, k < l.length → 1 ≤ ix l k) ∧ ∀ k, k ≤ l.length → 0 ≤ sumTo l k ∧ sumTo l k ≤ 1048576 := by
  unfold weightsB at h
  simp only [Bool.and_eq_true, decide_eq_true_eq] at h
  refine ⟨fun k hk => by have := allR_get h.1 k hk; simp at this; omega, fun k => ?_⟩
  induction k with
  | zero => intro _; simp [sumTo]
  | succ k ih =>
    intro hk
    have h1 := allR_get h.1 k (by omega)
    simp only [decide_eq_true_eq] at h1
    have := ih (by omega)
    unfold sumTo; omega

def TotRel (l : List Int) (s i : Value) : Prop := ∃ k : Nat, k ≤ l.length ∧ i = .int .i64 k ∧ s = .int .i64 (sumTo l k) ∧ (∀ j, j < k → 1 ≤ ix l j ∧ ix l j ≤ 1048576 - sumTo l j) ∧ 0 ≤ sumTo l k ∧ sumTo l k ≤ 1048576

set_option maxHeartbeats 2000000 in
theorem total_def (v : Value) (l : List Int) (w : World) (h : Ints w v l) :
    Calls Tryz.prog 55 #[v, .int .i64 1] w (TotPost l w) := by
  obtain ⟨a, c, rfl, -, hl, -, hcell⟩ := h.form
  have HFI := Lib.hid h.2
  clear h
  have HE : Hid (weightsB l l.length = allR l.length (fun i => decide (1 ≤ ix l i ∧ ix l i ≤ 1048576 - sumTo l i))) := Lib.hid (by unfold weightsB; simp)
  go_enter Tryz.func55, Tryz.ntmps55
  go_wp2
  go_loop [5, 6] (fun s i => TotRel l s i) (fun _ i => l.length - (intOf i).toNat)
  case atStart => exact ⟨0, by omega, rfl, rfl, fun j hj => absurd hj (Nat.not_lt_zero _), by simp [sumTo], by simp [sumTo]⟩
  case round =>
    obtain ⟨k, hk, rfl, rfl, hall, hs0, hs1⟩ := hrel
    have HA := Lib.hid hall
    clear hall
    by_cases hlt : k < l.length
    · obtain ⟨b, off, rfl, hbl, hc⟩ := hcell (by omega)
      have hk1 := hc k hlt
      have hf := HFI.out k
      have HS : Hid (sumTo l (k + 1) = sumTo l k + ix l k) := Lib.hid rfl
      have HB : Hid (¬ (1 ≤ ix l k ∧ ix l k ≤ 1048576 - sumTo l k) → TotPost l w (.returned (.int .i64 (-1))) w) := Lib.hid (fun h => ⟨by
        unfold totI
        rw [HE.out, allR_false k hlt (decide_eq_false h)]; rfl, rfl⟩)
      clear hc hcell
      by_cases c1 : 1 ≤ ix l k ∧ ix l k ≤ 1048576
      · by_cases c2 : sumTo l k + ix l k ≤ 1048576
        · have HN : Hid (∀ j, j < k + 1 → 1 ≤ ix l j ∧ ix l j ≤ 1048576 - sumTo l j) := Lib.hid (lt_succ_all HA.out (by omega))
          go_wp2
          first
            | (go_round
               case rel => (exact ⟨k + 1, by omega, by go_num, by rw [HS.out], HN.out, by rw [HS.out]; omega, by rw [HS.out]; omega⟩)
               case measure => (simp [intOf]; omega))
            | (refine ⟨?_, ?_⟩
               · (exact ⟨k + 1, by omega, by go_num, by rw [HS.out], HN.out, by rw [HS.out]; omega, by rw [HS.out]; omega⟩)
               · (simp [intOf]; omega))
        · have HP := Lib.hid (HB.out (by omega))
          go_wp2
          go_ret
          exact HP.out
      · have HP := Lib.hid (HB.out (by omega))
        by_cases c3 : ix l k < 1
        · go_wp2
          go_ret
          exact HP.out
        · have c4 : 1048576 < ix l k := by omega
          go_wp2
          go_ret
          exact HP.out
    · obtain rfl : k = l.length := by omega
      have HT : Hid (weightsB l l.length = true) := Lib.hid (by rw [HE.out]; exact allR_true (fun j hj => decide_eq_true (HA.out j hj)))
      have HP : Hid (TotPost l w (.returned (.int .i64 (sumTo l l.length))) w) := Lib.hid ⟨by unfold totI; rw [HT.out]; rfl, rfl⟩
      clear HT
      go_wp2
      go_ret
      exact HP.out

theorem totI_pos {l : List Int} (h : weightsB l l.length = true) : 0 ≤ totI l := by
  unfold totI
  rw [h]
  have := (weights_sum' h).2 l.length (Nat.le_refl _)
  simp only [if_true]; omega

theorem total_ref (v : Value) (l : List Int) (w : World) (h : Ints w v l) :
    Calls Tryz.prog 55 #[v, .int .i64 1] w fun e w' => ∃ t : Int, e = .returned (.int .i64 t) ∧ (weightsB l l.length = true → 0 ≤ t) ∧ (weightsB l l.length = false → t = -1) ∧ w = w' :=
  (total_def v l w h).mono fun _ _ ⟨he, hw⟩ => ⟨_, he, totI_pos, fun h => by unfold totI; rw [h]; rfl, hw⟩

set_option maxHeartbeats 4000000 in
set_option maxRecDepth 100000 in
theorem rule_ref (v : Value) (r : GR) (n : Int) (w : World) (h : RuleIs w v r) (hn : InI n) :
    Calls Tryz.prog 53 #[v, .int .i64 n] w fun e w' => e = .returned (.int .i64 (ruleE r n)) ∧ Below w.heap.size w w' := by
  obtain ⟨vh, vb, vw, rfl, hsl⟩ := h
  have hal := bal (Below.refl w.heap.size w) (.cells #[.bool r.choice, vh, .bool r.sum, .int .i64 r.bound, vb, vw] 54)
  have HH := Lib.hid (hsl.head.below hal)
  have HB := Lib.hid (hsl.body.below hal)
  have HW := Lib.hid (hsl.wts.below hal)
  have hbi := hsl.bound
  obtain ⟨a1, c1, rfl, -, hl1, -, -⟩ := hsl.head.form
  obtain ⟨a2, c2, rfl, -, hl2, -, -⟩ := hsl.body.form
  obtain ⟨a3, c3, rfl, -, hl3, -, -⟩ := hsl.wts.form
  unfold InI at hn hbi
  clear hsl
  by_cases h1 : n < 0 ∨ 4000 < n
  · have HF : Hid (ruleE r n = 2) := Lib.hid (by unfold ruleE; rw [if_pos h1])
    rcases h1 with h1 | h1
    · go_enter Tryz.func53, Tryz.ntmps53
      go_wp2
      go_ret
      exact ⟨ret_int HF.out.symm, hal⟩
    · go_enter Tryz.func53, Tryz.ntmps53
      go_wp2
      go_ret
      exact ⟨ret_int HF.out.symm, hal⟩
  have hn2 : 0 ≤ n ∧ n ≤ 4000 := by omega
  have HE : Hid (ruleE r n = if increasingB r.head n = false ∨ (r.choice = true ∧ r.head.length = 0) then 172
      else if orderedB r.body n = false then 173
      else if (r.sum = false ∧ (0 < r.w.length ∨ r.bound ≠ 0)) ∨ (r.sum = true ∧ (weightsB r.w r.body.length = false ∨ r.bound < 0 ∨ 1048576 < r.bound)) then 174
      else 0) := Lib.hid (by unfold ruleE; rw [if_neg h1])
  clear h1
  cases h2 : increasingB r.head n with
  | false =>
    have HF : Hid (ruleE r n = 172) := Lib.hid (by rw [HE.out, if_pos (.inl h2)])
    go_enter Tryz.func53, Tryz.ntmps53
    go_wp2_with (go_at_call 52; (with_reducible refine (atoms_ref _ _ n _ HH.out).mono ?_); rintro e w1 ⟨e1, hb1⟩; rw [h2] at e1; subst e1)
    go_ret
    exact ⟨ret_int HF.out.symm, bon hal hb1⟩
  | true =>
  by_cases h3 : r.choice = true ∧ r.head.length = 0
  · have HF : Hid (ruleE r n = 172) := Lib.hid (by rw [HE.out, if_pos (.inr h3)])
    obtain ⟨h3, h4⟩ := h3
    have hb4 : ((r.head.length : Int) == 0) = true := by simp [h4]
    generalize r.choice = rc at *
    subst h3
    clear h4
    go_enter Tryz.func53, Tryz.ntmps53
    go_wp2_with (go_at_call 52; (with_reducible refine (atoms_ref _ _ n _ HH.out).mono ?_); rintro e w1 ⟨e1, hb1⟩; rw [h2] at e1; subst e1; have hc1 := bcell hb1; have hz1 : w.heap.size < w1.heap.size := (by have := hb1.size; simp at this; omega))
    go_ret
    exact ⟨ret_int HF.out.symm, bon hal hb1⟩
  have HE2 : Hid (ruleE r n = if orderedB r.body n = false then 173
      else if (r.sum = false ∧ (0 < r.w.length ∨ r.bound ≠ 0)) ∨ (r.sum = true ∧ (weightsB r.w r.body.length = false ∨ r.bound < 0 ∨ 1048576 < r.bound)) then 174
      else 0) := Lib.hid (by rw [HE.out, if_neg (fun h => by rcases h with h | h; (rw [h2] at h; cases h); exact h3 h)])
  have hch : r.choice = false ∨ ((r.head.length : Int) == 0) = false := by
    cases hc : r.choice with
    | false => exact .inl rfl
    | true => exact .inr (beq_eq_false_iff_ne.2 (fun e => h3 ⟨hc, by omega⟩))
  clear h3 HE
  cases h5 : orderedB r.body n with
  | false =>
    have HF : Hid (ruleE r n = 173) := Lib.hid (by rw [HE2.out, if_pos h5])
    go_enter Tryz.func53, Tryz.ntmps53
    go_wp2_with (first | (go_at_call 52; (with_reducible refine (atoms_ref _ _ n _ HH.out).mono ?_); rintro e w1 ⟨e1, hb1⟩; rw [h2] at e1; subst e1; have hc1 := bcell hb1; have hz1 : w.heap.size < w1.heap.size := (by have := hb1.size; simp at this; omega); rcases hch with hch | hch) | (go_at_call 54; (with_reducible refine (lits_ref _ _ n _ (HB.out.below hb1) hn2).mono ?_); rintro e w2 ⟨e2, hb2⟩; rw [h5] at e2; subst e2; have hc2 := bcell hb2; have hz2 : w.heap.size < w2.heap.size := (by have := hb2.size; omega)))
    all_goals
      go_ret
      exact ⟨ret_int HF.out.symm, bon (bon hal hb1) hb2⟩
  | true =>
    have HE3 : Hid (ruleE r n = if (r.sum = false ∧ (0 < r.w.length ∨ r.bound ≠ 0)) ∨ (r.sum = true ∧ (weightsB r.w r.body.length = false ∨ r.bound < 0 ∨ 1048576 < r.bound)) then 174
      else 0) := Lib.hid (by rw [HE2.out, if_neg (by rw [h5]; simp)])
    clear HE2
    cases hs : r.sum with
    | false =>
      rw [hs] at hal HH HB HW
      by_cases h6 : 0 < r.w.length
      · have HF : Hid (ruleE r n = 174) := Lib.hid (by rw [HE3.out, if_pos (.inl ⟨hs, .inl h6⟩)])
        clear HE3
        go_enter Tryz.func53, Tryz.ntmps53
        go_wp2_with (first | (go_at_call 52; (with_reducible refine (atoms_ref _ _ n _ HH.out).mono ?_); rintro e w1 ⟨e1, hb1⟩; rw [h2] at e1; subst e1; have hc1 := bcell hb1; have hz1 : w.heap.size < w1.heap.size := (by have := hb1.size; simp at this; omega); rcases hch with hch | hch) | (go_at_call 54; (with_reducible refine (lits_ref _ _ n _ (HB.out.below hb1) hn2).mono ?_); rintro e w2 ⟨e2, hb2⟩; rw [h5] at e2; subst e2; have hc2 := bcell hb2; have hz2 : w.heap.size < w2.heap.size := (by have := hb2.size; omega)))
        all_goals
          go_ret
          exact ⟨ret_int HF.out.symm, bon (bon hal hb1) hb2⟩
      · by_cases h7 : r.bound = 0
        · have HF : Hid (ruleE r n = 0) := Lib.hid (by rw [HE3.out, if_neg (by rintro (⟨-, h | h⟩ | ⟨h, -⟩); (exact h6 h); (exact h h7); (rw [hs] at h; cases h))])
          have h7' : (r.bound != 0) = false := by simp [h7]
          clear HE3 h7
          go_enter Tryz.func53, Tryz.ntmps53
          go_wp2_with (first | (go_at_call 52; (with_reducible refine (atoms_ref _ _ n _ HH.out).mono ?_); rintro e w1 ⟨e1, hb1⟩; rw [h2] at e1; subst e1; have hc1 := bcell hb1; have hz1 : w.heap.size < w1.heap.size := (by have := hb1.size; simp at this; omega); rcases hch with hch | hch) | (go_at_call 54; (with_reducible refine (lits_ref _ _ n _ (HB.out.below hb1) hn2).mono ?_); rintro e w2 ⟨e2, hb2⟩; rw [h5] at e2; subst e2; have hc2 := bcell hb2; have hz2 : w.heap.size < w2.heap.size := (by have := hb2.size; omega)))
          all_goals
            go_ret
            exact ⟨ret_int HF.out.symm, bon (bon hal hb1) hb2⟩
        · have HF : Hid (ruleE r n = 174) := Lib.hid (by rw [HE3.out, if_pos (.inl ⟨hs, .inr h7⟩)])
          have h7' : (r.bound != 0) = true := by simp [h7]
          clear HE3 h7
          go_enter Tryz.func53, Tryz.ntmps53
          go_wp2_with (first | (go_at_call 52; (with_reducible refine (atoms_ref _ _ n _ HH.out).mono ?_); rintro e w1 ⟨e1, hb1⟩; rw [h2] at e1; subst e1; have hc1 := bcell hb1; have hz1 : w.heap.size < w1.heap.size := (by have := hb1.size; simp at this; omega); rcases hch with hch | hch) | (go_at_call 54; (with_reducible refine (lits_ref _ _ n _ (HB.out.below hb1) hn2).mono ?_); rintro e w2 ⟨e2, hb2⟩; rw [h5] at e2; subst e2; have hc2 := bcell hb2; have hz2 : w.heap.size < w2.heap.size := (by have := hb2.size; omega)))
          all_goals
            go_ret
            exact ⟨ret_int HF.out.symm, bon (bon hal hb1) hb2⟩
    | true =>
      rw [hs] at hal HH HB HW
      by_cases h6 : r.w.length = r.body.length
      · have h6' : ((r.w.length : Int) != (r.body.length : Int)) = false := by simp [h6]
        have HL6 := Lib.hid h6
        cases h8 : weightsB r.w r.body.length with
        | false =>
          have HF : Hid (ruleE r n = 174) := Lib.hid (by rw [HE3.out, if_pos (.inr ⟨hs, .inl h8⟩)])
          have HT : Hid (weightsB r.w r.w.length = false) := Lib.hid (by rw [h6]; exact h8)
          clear HE3 h6 h8
          go_enter Tryz.func53, Tryz.ntmps53
          go_wp2_with (first | (go_at_call 52; (with_reducible refine (atoms_ref _ _ n _ HH.out).mono ?_); rintro e w1 ⟨e1, hb1⟩; rw [h2] at e1; subst e1; have hc1 := bcell hb1; have hz1 : w.heap.size < w1.heap.size := (by have := hb1.size; simp at this; omega); rcases hch with hch | hch) | (go_at_call 54; (with_reducible refine (lits_ref _ _ n _ (HB.out.below hb1) hn2).mono ?_); rintro e w2 ⟨e2, hb2⟩; rw [h5] at e2; subst e2; have hc2 := bcell hb2; have hz2 : w.heap.size < w2.heap.size := (by have := hb2.size; omega)) | (go_at_call 55; (with_reducible refine (total_ref _ _ _ ((HW.out.below hb1).below hb2)).mono ?_); rintro e w3 ⟨t, rfl, ht1, ht2, rfl⟩; have htt := ht2 HT.out; subst htt; clear ht1 ht2))
          all_goals
            go_ret
            exact ⟨ret_int HF.out.symm, bon (bon hal hb1) hb2⟩
        | true =>
          have HT : Hid (weightsB r.w r.w.length = true) := Lib.hid (by rw [h6]; exact h8)
          have HE4 : Hid (ruleE r n = if r.bound < 0 ∨ 1048576 < r.bound then 174 else 0) := Lib.hid (by rw [HE3.out, hs, h8]; simp)
          clear HE3 h6 h8
          by_cases h9 : r.bound < 0
          · have HF : Hid (ruleE r n = 174) := Lib.hid (by rw [HE4.out, if_pos (.inl h9)])
            go_enter Tryz.func53, Tryz.ntmps53
            go_wp2_with (first | (go_at_call 52; (with_reducible refine (atoms_ref _ _ n _ HH.out).mono ?_); rintro e w1 ⟨e1, hb1⟩; rw [h2] at e1; subst e1; have hc1 := bcell hb1; have hz1 : w.heap.size < w1.heap.size := (by have := hb1.size; simp at this; omega); rcases hch with hch | hch) | (go_at_call 54; (with_reducible refine (lits_ref _ _ n _ (HB.out.below hb1) hn2).mono ?_); rintro e w2 ⟨e2, hb2⟩; rw [h5] at e2; subst e2; have hc2 := bcell hb2; have hz2 : w.heap.size < w2.heap.size := (by have := hb2.size; omega)) | (go_at_call 55; (with_reducible refine (total_ref _ _ _ ((HW.out.below hb1).below hb2)).mono ?_); rintro e w3 ⟨t, rfl, ht1, ht2, rfl⟩; have htt := ht1 HT.out; clear ht1 ht2))
            all_goals
              go_ret
              exact ⟨ret_int HF.out.symm, bon (bon hal hb1) hb2⟩
          · by_cases h10 : 1048576 < r.bound
            · have HF : Hid (ruleE r n = 174) := Lib.hid (by rw [HE4.out, if_pos (.inr h10)])
              go_enter Tryz.func53, Tryz.ntmps53
              go_wp2_with (first | (go_at_call 52; (with_reducible refine (atoms_ref _ _ n _ HH.out).mono ?_); rintro e w1 ⟨e1, hb1⟩; rw [h2] at e1; subst e1; have hc1 := bcell hb1; have hz1 : w.heap.size < w1.heap.size := (by have := hb1.size; simp at this; omega); rcases hch with hch | hch) | (go_at_call 54; (with_reducible refine (lits_ref _ _ n _ (HB.out.below hb1) hn2).mono ?_); rintro e w2 ⟨e2, hb2⟩; rw [h5] at e2; subst e2; have hc2 := bcell hb2; have hz2 : w.heap.size < w2.heap.size := (by have := hb2.size; omega)) | (go_at_call 55; (with_reducible refine (total_ref _ _ _ ((HW.out.below hb1).below hb2)).mono ?_); rintro e w3 ⟨t, rfl, ht1, ht2, rfl⟩; have htt := ht1 HT.out; clear ht1 ht2))
              all_goals
                go_ret
                exact ⟨ret_int HF.out.symm, bon (bon hal hb1) hb2⟩
            · have HF : Hid (ruleE r n = 0) := Lib.hid (by rw [HE4.out, if_neg (by omega)])
              go_enter Tryz.func53, Tryz.ntmps53
              go_wp2_with (first | (go_at_call 52; (with_reducible refine (atoms_ref _ _ n _ HH.out).mono ?_); rintro e w1 ⟨e1, hb1⟩; rw [h2] at e1; subst e1; have hc1 := bcell hb1; have hz1 : w.heap.size < w1.heap.size := (by have := hb1.size; simp at this; omega); rcases hch with hch | hch) | (go_at_call 54; (with_reducible refine (lits_ref _ _ n _ (HB.out.below hb1) hn2).mono ?_); rintro e w2 ⟨e2, hb2⟩; rw [h5] at e2; subst e2; have hc2 := bcell hb2; have hz2 : w.heap.size < w2.heap.size := (by have := hb2.size; omega)) | (go_at_call 55; (with_reducible refine (total_ref _ _ _ ((HW.out.below hb1).below hb2)).mono ?_); rintro e w3 ⟨t, rfl, ht1, ht2, rfl⟩; have htt := ht1 HT.out; clear ht1 ht2))
              all_goals
                go_ret
                exact ⟨ret_int HF.out.symm, bon (bon hal hb1) hb2⟩
      · have h6' : ((r.w.length : Int) != (r.body.length : Int)) = true := by simp; omega
        have HF : Hid (ruleE r n = 174) := Lib.hid (by
          have h8 : weightsB r.w r.body.length = false := by
            unfold weightsB
            rw [show decide ((r.w.length : Int) = (r.body.length : Int)) = false from decide_eq_false (by omega)]; simp
          rw [HE3.out, if_pos (.inr ⟨hs, .inl h8⟩)])
        clear HE3 h6
        go_enter Tryz.func53, Tryz.ntmps53
        go_wp2_with (first | (go_at_call 52; (with_reducible refine (atoms_ref _ _ n _ HH.out).mono ?_); rintro e w1 ⟨e1, hb1⟩; rw [h2] at e1; subst e1; have hc1 := bcell hb1; have hz1 : w.heap.size < w1.heap.size := (by have := hb1.size; simp at this; omega); rcases hch with hch | hch) | (go_at_call 54; (with_reducible refine (lits_ref _ _ n _ (HB.out.below hb1) hn2).mono ?_); rintro e w2 ⟨e2, hb2⟩; rw [h5] at e2; subst e2; have hc2 := bcell hb2; have hz2 : w.heap.size < w2.heap.size := (by have := hb2.size; omega)))
        all_goals
          go_ret
          exact ⟨ret_int HF.out.symm, bon (bon hal hb1) hb2⟩

end Go.Proofs.YtfhpfbakoiekpaaGreatDoor

/- ostlerref17.names. -/
namespace Go.Proofs.YtfhpfbakoiekpaaGreatDoor
open Go.RowKit


theorem toList_inj17 {s t : ByteArray} (h : s.toList = t.toList) : s = t := by
  rw [Lib.toList_data, Lib.toList_data] at h
  cases s; cases t
  simpa using h

def NmRel (l : List ByteArray) (w : World) (i : Value) (wx : World) : Prop := ∃ k : Nat, k ≤ l.length ∧ i = .int .i64 k ∧ (∀ j, j < k → nameAt l j = true) ∧ Below w.heap.size w wx
def NmRel2 (l : List ByteArray) (s : ByteArray) (m : Nat) (w : World) (i : Value) (wx : World) : Prop := ∃ k : Nat, k ≤ m ∧ i = .int .i64 k ∧ (emptyS s = true ∨ ∀ j, j < k → ixS l j ≠ s) ∧ Below w.heap.size w wx

set_option maxHeartbeats 2000000 in
theorem names_ref (v : Value) (l : List ByteArray) (w : World) (h : Strs w v l) :
    Calls Tryz.prog 51 #[v] w fun e w' => e = .returned (.bool (namesB l)) ∧ Below w.heap.size w w' := by
  obtain ⟨a, c, rfl, -, hl, -, hsz, hcell⟩ := h.form
  have HSZ := Lib.hid hsz
  have HC := Lib.hid hcell
  clear h hsz hcell
  have HE : Hid (namesB l = allR l.length (nameAt l)) := Lib.hid rfl
  go_enter Tryz.func51, Tryz.ntmps51
  go_wp2
  go_loopw [3] (fun i wx => NmRel l w i wx) (fun i _ => l.length - (intOf i).toNat)
  case atStart => exact ⟨0, by omega, rfl, fun j hj => absurd hj (Nat.not_lt_zero _), Below.refl _ _⟩
  case round =>
    obtain ⟨k, hk, rfl, hall, hb⟩ := hrel
    have HA := Lib.hid hall
    have HB := Lib.hid hb
    clear hall
    by_cases hlt : k < l.length
    · obtain ⟨b, off, hab, hbl, hc⟩ := HC.out (by omega)
      subst hab
      obtain ⟨s, hs⟩ : ∃ s, s = ixS l k := ⟨_, rfl⟩
      have HSE := Lib.hid hs
      have hcl : w.cell? ⟨b, off + k, none⟩ = some (.string s) := by rw [hs]; exact hc k hlt
      have hk1 := (bcell hb _ _ hbl).trans hcl
      have hsz1 : s.size ≤ 140737488351232 := by rw [hs]; exact HSZ.out k
      have HN : Hid (nameAt l k = (decide (s.size ≤ 200) && !nlB s && (emptyS s || allR k (fun j => decide (ixS l j ≠ s))))) := Lib.hid (by rw [hs]; rfl)
      have HBAD : Hid (nameAt l k = false → namesB l = false) := Lib.hid (fun h => by rw [HE.out]; exact allR_false k hlt h)
      have HCC := Lib.hid hc
      clear hc hs
      by_cases g1 : 200 < s.size
      · have HF := Lib.hid (HBAD.out (by rw [HN.out, decide_eq_false (by omega)]; rfl))
        go_wp2
        go_ret
        exact ⟨ret_bool HF.out.symm, hb⟩
      · cases g2 : nlB s with
        | true =>
          have HF := Lib.hid (HBAD.out (by rw [HN.out, g2]; simp))
          go_wp2_with (go_at_call 105; (with_reducible refine (containsNl_any _ _).mono ?_); rintro e w2 ⟨e2, rfl⟩; rw [g2] at e2; subst e2)
          go_ret
          exact ⟨ret_bool HF.out.symm, hb⟩
        | false =>
          go_upto_region 7 with (go_at_call 105; (with_reducible refine (containsNl_any _ _).mono ?_); rintro e w2 ⟨e2, rfl⟩; rw [g2] at e2; subst e2)
          obtain ⟨wo, rfl⟩ : ∃ wo : World, wo = wr := ⟨_, rfl⟩
          clear hk1 hb
          go_loopw [4] (fun i wx => NmRel2 l s k w i wx) (fun i _ => k - (intOf i).toNat)
          case atStart => exact ⟨0, by omega, rfl, .inr (fun j hj => absurd hj (Nat.not_lt_zero _)), HB.out⟩
          case round =>
            obtain ⟨m, hm, rfl, hall2, hb2⟩ := hrel
            have HA2 := Lib.hid hall2
            have hlr : b < wr.heap.size := Nat.lt_of_lt_of_le hbl hb2.size
            have k1 : ∀ e : Ext wr, e.world.cell? ⟨b, off + k, none⟩ = some (.string s) := fun e => (bcell e.below _ _ hlr).trans ((bcell hb2 _ _ hbl).trans hcl)
            clear hall2
            by_cases hltm : m < k
            · obtain ⟨t, ht⟩ : ∃ t, t = ixS l m := ⟨_, rfl⟩
              have k2 : ∀ e : Ext wr, e.world.cell? ⟨b, off + m, none⟩ = some (.string t) := fun e => by rw [ht]; exact (bcell e.below _ _ hlr).trans ((bcell hb2 _ _ hbl).trans (HCC.out m (by omega)))
              have HT := Lib.hid ht
              clear ht
              have hlm : m < l.length := by omega
              cases g3 : emptyS s with
              | true =>
                have g4 : s.toList.isEmpty = true := g3
                have g5 : s.toList = [] := by simpa using g4
                have g6 : (s.toList.isEmpty == false) = false := by rw [g4]; rfl
                go_wp2
                refine wp_region_ext (by kernel_rfl) (by kernel_rfl) ?_
                repeat (go_big_quiet_step (fail))
                refine wpQuiet_nil ?_
                intro _ hw'
                obtain ⟨⟨w9, hb9⟩, rfl⟩ := hw'
                try dsimp only
                go_wp2
                first
                  | (go_roundw
                     case rel => (exact ⟨m + 1, by omega, by go_num, .inl g3, bon hb2 hb9⟩)
                     case measure => (simp [intOf]; omega))
                  | (refine ⟨?_, ?_⟩
                     · (exact ⟨m + 1, by omega, by go_num, .inl g3, bon hb2 hb9⟩)
                     · (simp [intOf]; omega))
              | false =>
                have g4 : s.toList.isEmpty = false := g3
                have g5 : ¬ s.toList = [] := by simpa using g4
                by_cases g6 : s = t
                · have HF := Lib.hid (HBAD.out (by
                    rw [HN.out, g3, allR_false m hltm (decide_eq_false (fun h => h (HT.out.symm.trans g6.symm)))]; simp))
                  subst g6
                  go_wp2
                  refine wp_region_ext (by kernel_rfl) (by kernel_rfl) ?_
                  repeat (go_big_quiet_step (fail))
                  refine wpQuiet_nil ?_
                  intro _ hw'
                  obtain ⟨⟨w9, hb9⟩, rfl⟩ := hw'
                  try dsimp only
                  go_wp2
                  go_ret
                  exact ⟨ret_bool HF.out.symm, bon hb2 hb9⟩
                · have HN2 : Hid (∀ j, j < m + 1 → ixS l j ≠ s) := Lib.hid (lt_succ_all (HA2.out.resolve_left (by rw [g3]; simp)) (fun h => g6 (h.symm.trans HT.out.symm)))
                  have g7 : (s.toList == t.toList) = false := beq_eq_false_iff_ne.2 (fun e => g6 (toList_inj17 e))
                  clear g6
                  go_wp2
                  refine wp_region_ext (by kernel_rfl) (by kernel_rfl) ?_
                  repeat (go_big_quiet_step (fail))
                  refine wpQuiet_nil ?_
                  intro _ hw'
                  obtain ⟨⟨w9, hb9⟩, rfl⟩ := hw'
                  try dsimp only
                  go_wp2
                  first
                    | (go_roundw
                       case rel => (exact ⟨m + 1, by omega, by go_num, .inr HN2.out, bon hb2 hb9⟩)
                       case measure => (simp [intOf]; omega))
                    | (refine ⟨?_, ?_⟩
                       · (exact ⟨m + 1, by omega, by go_num, .inr HN2.out, bon hb2 hb9⟩)
                       · (simp [intOf]; omega))
            · obtain rfl : m = k := by omega
              have HNN : Hid (∀ j, j < m + 1 → nameAt l j = true) := Lib.hid (lt_succ_all HA.out (by
                rw [HN.out, g2, decide_eq_true (show s.size ≤ 200 by omega)]
                rcases HA2.out with h | h
                · rw [h]; rfl
                · rw [allR_true (fun j hj => decide_eq_true (h j hj))]; simp))
              go_wp2
              go_roundw
              case rel => exact ⟨m + 1, by omega, by go_num, HNN.out, hb2⟩
              case measure => simp [intOf]; omega
    · have HF : Hid (namesB l = true) := Lib.hid (by rw [HE.out]; exact allR_true (fun j hj => HA.out j (by omega)))
      go_wp2
      go_ret
      exact ⟨ret_bool HF.out.symm, hb⟩

end Go.Proofs.YtfhpfbakoiekpaaGreatDoor

/- ostlerref17.Valid. -/
namespace Go.Proofs.YtfhpfbakoiekpaaGreatDoor
open Go.RowKit

set_option maxHeartbeats 4000000 in
set_option maxRecDepth 100000 in
theorem valid_ref (v : Value) (p : GP) (w : World) (h : ProgIs w v p) :
    Calls Tryz.prog 15 #[v] w (ValidPost p w) := by
  obtain ⟨vn, vs, vr, vm, rfl, hn, hnames, hshown, hrules, hmin⟩ := h
  obtain ⟨a0, c0, rfl, -, hl0, -⟩ := hnames.form
  obtain ⟨a9, c9, rfl, -, hl9, -, -⟩ := hshown.form
  obtain ⟨a1, c1, rfl, -, hl1, -, hcell⟩ := hrules.form
  obtain ⟨a2, c2, rfl, -, hl2, -, hmcell⟩ := hmin.form
  have hal := bal (Below.refl w.heap.size w) (.cells #[.int .i64 p.n, .slice a0 p.names.length c0, .slice a9 p.shown.length c9, .slice a1 p.rules.length c1, .slice a2 p.min.length c2] 27)
  have HN := Lib.hid (hnames.below hal)
  have HS := Lib.hid (hshown.below hal)
  unfold InI at hn
  clear hrules hmin hnames hshown
  have H170 : Hid (namedB p = false → validE p = 170) := Lib.hid (fun h => by simp [validE, h])
  have hnd : namedB p = (decide (0 ≤ p.n ∧ p.n ≤ 4000 ∧ (p.names.length : Int) = p.n) && increasingB p.shown p.n && namesB p.names) := rfl
  have HND := Lib.hid hnd
  clear hnd
  by_cases g1 : p.n < 0
  · have HF := Lib.hid (H170.out (by rw [HND.out, decide_eq_false (by omega)]; rfl))
    go_enter Tryz.func15, Tryz.ntmps15
    go_wp2
    go_ret
    exact ⟨ret_int HF.out.symm, hal⟩
  by_cases g2 : 4000 < p.n
  · have HF := Lib.hid (H170.out (by rw [HND.out, decide_eq_false (by omega)]; rfl))
    go_enter Tryz.func15, Tryz.ntmps15
    go_wp2
    go_ret
    exact ⟨ret_int HF.out.symm, hal⟩
  by_cases g3 : (p.names.length : Int) = p.n
  case neg =>
    have HF := Lib.hid (H170.out (by rw [HND.out, decide_eq_false (by omega)]; rfl))
    have g3' : ((p.names.length : Int) != p.n) = true := by simp [g3]
    clear g3
    go_enter Tryz.func15, Tryz.ntmps15
    go_wp2
    go_ret
    exact ⟨ret_int HF.out.symm, hal⟩
  have g3' : ((p.names.length : Int) != p.n) = false := by simp [g3]
  have HND2 : Hid (namedB p = (increasingB p.shown p.n && namesB p.names)) := Lib.hid (by rw [HND.out, decide_eq_true (by omega)]; simp)
  clear g3 HND
  cases g5 : namesB p.names with
  | false =>
    have HF := Lib.hid (H170.out (by rw [HND2.out, g5]; simp))
    go_enter Tryz.func15, Tryz.ntmps15
    go_wp2_with (go_at_call 51; (with_reducible refine (names_ref _ _ _ HN.out).mono ?_); rintro e w1 ⟨e1, hb1⟩; rw [g5] at e1; subst e1; have hc1 := bcell hb1; have hz1 : w.heap.size < w1.heap.size := (by have := hb1.size; simp at this; omega))
    go_ret
    exact ⟨ret_int HF.out.symm, bon hal hb1⟩
  | true =>
  cases g6 : increasingB p.shown p.n with
  | false =>
    have HF := Lib.hid (H170.out (by rw [HND2.out, g6]; rfl))
    go_enter Tryz.func15, Tryz.ntmps15
    go_wp2_with (first | (go_at_call 51; (with_reducible refine (names_ref _ _ _ HN.out).mono ?_); rintro e w1 ⟨e1, hb1⟩; rw [g5] at e1; subst e1; have hc1 := bcell hb1; have hz1 : w.heap.size < w1.heap.size := (by have := hb1.size; simp at this; omega)) | (go_at_call 52; (with_reducible refine (atoms_ref _ _ p.n _ (HS.out.below hb1)).mono ?_); rintro e w2 ⟨e2, hb2⟩; rw [g6] at e2; subst e2; have hc2 := bcell hb2; have hz2 : w.heap.size < w2.heap.size := (by have := hb2.size; omega)))
    go_ret
    exact ⟨ret_int HF.out.symm, bon (bon hal hb1) hb2⟩
  | true =>
  have h1 : namedB p = true := by rw [HND2.out, g5, g6]; rfl
  by_cases h2 : 40000 < p.rules.length
  · have HF : Hid (validE p = 171) := Lib.hid (by simp [validE, h1, h2])
    clear h1
    go_enter Tryz.func15, Tryz.ntmps15
    go_wp2_with (first | (go_at_call 51; (with_reducible refine (names_ref _ _ _ HN.out).mono ?_); rintro e w1 ⟨e1, hb1⟩; rw [g5] at e1; subst e1; have hc1 := bcell hb1; have hz1 : w.heap.size < w1.heap.size := (by have := hb1.size; simp at this; omega)) | (go_at_call 52; (with_reducible refine (atoms_ref _ _ p.n _ (HS.out.below hb1)).mono ?_); rintro e w2 ⟨e2, hb2⟩; rw [g6] at e2; subst e2; have hc2 := bcell hb2; have hz2 : w.heap.size < w2.heap.size := (by have := hb2.size; omega)))
    go_ret
    exact ⟨ret_int HF.out.symm, bon (bon hal hb1) hb2⟩
  have HF : Hid (validE p = if rulesE p.rules p.n ≠ 0 then rulesE p.rules p.n else if 8 < p.min.length then 175 else if minsB p.min p.n = false then 175 else 0) := Lib.hid (by simp [validE, h1, h2])
  have hn4 : 0 ≤ p.n ∧ p.n ≤ 4000 := by omega
  clear h1
  go_enter Tryz.func15, Tryz.ntmps15
  go_wp2_with (first | (go_at_call 51; (with_reducible refine (names_ref _ _ _ HN.out).mono ?_); rintro e w1 ⟨e1, hb1⟩; rw [g5] at e1; subst e1; have hc1 := bcell hb1; have hz1 : w.heap.size < w1.heap.size := (by have := hb1.size; simp at this; omega)) | (go_at_call 52; (with_reducible refine (atoms_ref _ _ p.n _ (HS.out.below hb1)).mono ?_); rintro e w2 ⟨e2, hb2⟩; rw [g6] at e2; subst e2; have hc2 := bcell hb2; have hz2 : w.heap.size < w2.heap.size := (by have := hb2.size; omega)))
  have hb12 := bon hb1 hb2
  clear hb1 hb2
  obtain ⟨W, hW⟩ : ∃ W, W = (w.alloc (.cells #[.int .i64 p.n, .slice a0 p.names.length c0, .slice a9 p.shown.length c9, .slice a1 p.rules.length c1, .slice a2 p.min.length c2] 27)) := ⟨_, rfl⟩
  go_loopw [3] (VRel1 p.rules p.n W) (fun i _ => p.rules.length - (intOf i).toNat)
  case atStart => exact ⟨0, by omega, rfl, fun j hj => absurd hj (Nat.not_lt_zero _), by rw [hW]; exact hb12⟩
  case round =>
    obtain ⟨k, hk, rfl, hok, hb⟩ := hrel
    have HOK := Lib.hid hok
    clear hok
    have hsW : w.heap.size < W.heap.size := by rw [hW]; simp
    have hsr : w.heap.size < wr.heap.size := Nat.lt_of_lt_of_le hsW hb.size
    have q0 : wr.cell? ⟨w.heap.size, 0, none⟩ = some (.int .i64 p.n) := by rw [bcell hb _ _ hsW, hW]; go_simp
    have q3 : wr.cell? ⟨w.heap.size, 4, none⟩ = some (.slice a2 p.min.length c2) := by rw [bcell hb _ _ hsW, hW]; go_simp
    have q2 : wr.cell? ⟨w.heap.size, 3, none⟩ = some (.slice a1 p.rules.length c1) := by rw [bcell hb _ _ hsW, hW]; go_simp
    clear hc1 hc2 hb12 HN HS
    rw [← hW] at hal
    have hbw := bon hal hb
    clear hW
    by_cases hlt : k < p.rules.length
    · obtain ⟨b, off, rfl, hbl, hc⟩ := hcell (by omega)
      obtain ⟨vh, vb, vw, hcc, hsl⟩ := hc k hlt
      obtain ⟨r0, r1, r2, r3, r4, r5⟩ := hcc.below hbw hbl
      have HS := Lib.hid (hsl.below hbw)
      obtain ⟨a3, c3, rfl, -, hl3, -, -⟩ := hsl.head.form
      obtain ⟨a4, c4, rfl, -, hl4, -, -⟩ := hsl.body.form
      obtain ⟨a5, c5, rfl, -, hl5, -, -⟩ := hsl.wts.form
      have hbr := Nat.lt_of_lt_of_le hbl hbw.size
      have HR : Hid (∀ e : Ext wr, RuleIs e.world (.agg #[.bool (ixR p.rules k).choice, .slice a3 (ixR p.rules k).head.length c3, .bool (ixR p.rules k).sum, .int .i64 (ixR p.rules k).bound, .slice a4 (ixR p.rules k).body.length c4, .slice a5 (ixR p.rules k).w.length c5]) (ixR p.rules k)) := Lib.hid (fun e => ⟨_, _, _, rfl, HS.out.below e.below⟩)
      have x0 : ∀ e : Ext wr, e.world.cell? ⟨w.heap.size, 0, none⟩ = some (.int .i64 p.n) := fun e => (bcell e.below _ _ hsr).trans q0
      have x1 : ∀ e : Ext wr, e.world.cell? ⟨w.heap.size, 3, none⟩ = some (.slice (some ⟨b, off, none⟩) p.rules.length c1) := fun e => (bcell e.below _ _ hsr).trans q2
      have s0 : ∀ e : Ext wr, e.world.cell? ⟨b, off + k * 6, none⟩ = _ := fun e => (bcell e.below _ _ hbr).trans r0
      have s1 : ∀ e : Ext wr, e.world.cell? ⟨b, off + k * 6 + 1, none⟩ = _ := fun e => (bcell e.below _ _ hbr).trans r1
      have s2 : ∀ e : Ext wr, e.world.cell? ⟨b, off + k * 6 + 2, none⟩ = _ := fun e => (bcell e.below _ _ hbr).trans r2
      have s3 : ∀ e : Ext wr, e.world.cell? ⟨b, off + k * 6 + 3, none⟩ = _ := fun e => (bcell e.below _ _ hbr).trans r3
      have s4 : ∀ e : Ext wr, e.world.cell? ⟨b, off + k * 6 + 4, none⟩ = _ := fun e => (bcell e.below _ _ hbr).trans r4
      have s5 : ∀ e : Ext wr, e.world.cell? ⟨b, off + k * 6 + 5, none⟩ = _ := fun e => (bcell e.below _ _ hbr).trans r5
      have hnI : InI p.n := by unfold InI; omega
      clear hc hcell hcc hsl r0 r1 r2 r3 r4 r5
      by_cases hz : ruleE (ixR p.rules k) p.n = 0
      · have hz1 : (ruleE (ixR p.rules k) p.n == 0) = true := by simp [hz]
        have hz2 : (ruleE (ixR p.rules k) p.n != 0) = false := by simp [hz]
        have HZ := Lib.hid hz
        clear hz
        go_wp2
        refine wp_region_ext (by kernel_rfl) (by kernel_rfl) ?_
        repeat (go_big_quiet_step ((first | (go_at_call 53; exact Calls.ext_of (rule_ref _ _ _ _ (HR.out _) hnI)))))
        refine wpQuiet_nil ?_
        intro _ hw'
        obtain ⟨⟨w9, hb9⟩, rfl⟩ := hw'
        try dsimp only
        go_wp2
        first
          | (go_roundw
             case rel => (exact ⟨k + 1, by omega, by go_num, lt_succ_all HOK.out HZ.out, bon hb hb9⟩)
             case measure => (simp [intOf]; omega))
          | (refine ⟨?_, ?_⟩
             · (exact ⟨k + 1, by omega, by go_num, lt_succ_all HOK.out HZ.out, bon hb hb9⟩)
             · (simp [intOf]; omega))
      · have hz1 : (ruleE (ixR p.rules k) p.n == 0) = false := by simp [hz]
        have hz2 : (ruleE (ixR p.rules k) p.n != 0) = true := by simp [hz]
        have HZ := Lib.hid hz
        clear hz
        go_wp2
        refine wp_region_ext (by kernel_rfl) (by kernel_rfl) ?_
        repeat (go_big_quiet_step ((first | (go_at_call 53; exact Calls.ext_of (rule_ref _ _ _ _ (HR.out _) hnI)))))
        refine wpQuiet_nil ?_
        intro _ hw'
        obtain ⟨⟨w9, hb9⟩, rfl⟩ := hw'
        try dsimp only
        go_wp2
        go_ret
        refine ⟨ret_int ?_, bon hbw hb9⟩
        have e1 : rulesE p.rules p.n = ruleE (ixR p.rules k) p.n := by
          rw [rulesFrom_split p.rules p.n k hk HOK.out, show p.rules.length - k = (p.rules.length - k - 1) + 1 by omega, rulesFrom, if_pos HZ.out]
        rw [HF.out, e1, if_pos HZ.out]
    · have e1 : rulesE p.rules p.n = 0 := by
        rw [rulesFrom_split p.rules p.n k hk HOK.out, show p.rules.length - k = 0 by omega]; rfl
      rw [e1] at HF
      by_cases h3 : 8 < p.min.length
      · go_wp2
        go_ret
        exact ⟨ret_int (by rw [HF.out]; simp [h3]), hbw⟩
      go_wp2
      clear HOK hlt hk e1
      have HBW := Lib.hid hbw
      clear hbw hb hal
      obtain ⟨wo, hwo⟩ : ∃ wo : World, wo = wr := ⟨_, rfl⟩
      rw [← hwo] at q0 q3 hsr HBW ⊢
      clear hwo
      go_loopw [5] (VRel2 p.min p.n wo) (fun i _ => p.min.length - (intOf i).toNat)
      case atStart => exact ⟨0, by omega, rfl, fun j hj => absurd hj (Nat.not_lt_zero _), Below.refl _ _⟩
      case round =>
        obtain ⟨k, hk, rfl, hok, hb⟩ := hrel
        have HOK := Lib.hid hok
        clear hok
        have hbw := bon HBW.out hb
        replace q0 := (bcell hb _ _ hsr).trans q0
        replace q3 := (bcell hb _ _ hsr).trans q3
        have hsr2 := Nat.lt_of_lt_of_le hsr hb.size
        by_cases hlt : k < p.min.length
        · obtain ⟨b, off, rfl, hbl, hc⟩ := hmcell (by omega)
          obtain ⟨vl, vw, hcc, hsl⟩ := hc k hlt
          obtain ⟨vl', vw', hcc', hsl'⟩ := hc (k - 1) (by omega)
          obtain ⟨m0, m1, m2⟩ := hcc.below hbw hbl
          obtain ⟨m0', -, -⟩ := hcc'.below hbw hbl
          have HS := Lib.hid (hsl.below hbw)
          obtain ⟨a3, c3, rfl, -, hl3, -, -⟩ := hsl.lits.form
          obtain ⟨a4, c4, rfl, -, hl4, -, -⟩ := hsl.wts.form
          have hlv := hsl.level
          have hlv' := hsl'.level
          unfold InI at hlv hlv'
          have hbr := Nat.lt_of_lt_of_le hbl hbw.size
          obtain ⟨W2, hW2⟩ : ∃ W2, W2 = wr.alloc (.cells #[.int .i64 (ixM p.min k).level, .slice a3 (ixM p.min k).lits.length c3, .slice a4 (ixM p.min k).w.length c4] 83) := ⟨_, rfl⟩
          have hbx : Below wr.heap.size wr W2 := by rw [hW2]; exact bal (Below.refl _ _) _
          have hz2 : wr.heap.size < W2.heap.size := by rw [hW2]; simp
          have HL : Hid (∀ e : Ext W2, Ints e.world (.slice a3 (ixM p.min k).lits.length c3) (ixM p.min k).lits) := Lib.hid (fun e => HS.out.lits.below (bon hbx e.below))
          have HW2 : Hid (∀ e : Ext W2, Ints e.world (.slice a4 (ixM p.min k).w.length c4) (ixM p.min k).w) := Lib.hid (fun e => HS.out.wts.below (bon hbx e.below))
          have x0 : ∀ e : Ext W2, e.world.cell? ⟨w.heap.size, 0, none⟩ = some (.int .i64 p.n) := fun e => (bcell (bon hbx e.below) _ _ hsr2).trans q0
          have x1 : ∀ e : Ext W2, e.world.cell? ⟨w.heap.size, 4, none⟩ = some (.slice (some ⟨b, off, none⟩) p.min.length c2) := fun e => (bcell (bon hbx e.below) _ _ hsr2).trans q3
          have x2 : ∀ e : Ext W2, e.world.cell? ⟨wr.heap.size, 0, none⟩ = some (.int .i64 (ixM p.min k).level) := fun e => (bcell e.below _ _ hz2).trans (by rw [hW2]; go_simp)
          have x3 : ∀ e : Ext W2, e.world.cell? ⟨wr.heap.size, 1, none⟩ = some (.slice a3 (ixM p.min k).lits.length c3) := fun e => (bcell e.below _ _ hz2).trans (by rw [hW2]; go_simp)
          have x4 : ∀ e : Ext W2, e.world.cell? ⟨wr.heap.size, 2, none⟩ = some (.slice a4 (ixM p.min k).w.length c4) := fun e => (bcell e.below _ _ hz2).trans (by rw [hW2]; go_simp)
          have x5 : ∀ e : Ext W2, e.world.cell? ⟨b, off + (k - 1) * 3, none⟩ = some (.int .i64 (ixM p.min (k - 1)).level) := fun e => (bcell (bon hbx e.below) _ _ hbr).trans m0'
          clear hc hmcell hcell hcc hcc' hsl hsl' m0'
          have hW2' := hW2.symm
          clear hW2
          have hbad : minAt p.min p.n k = false → Hid (validE p = 175) := fun h => Lib.hid (by rw [HF.out, minsB, allR_false k hlt h]; simp)
          have hmk : minAt p.min p.n k = (orderedB (ixM p.min k).lits p.n && weightsB (ixM p.min k).w (ixM p.min k).lits.length && decide (-2147483647 ≤ (ixM p.min k).level ∧ (ixM p.min k).level ≤ 2147483647) && (k == 0 || decide ((ixM p.min k).level < (ixM p.min (k - 1)).level))) := rfl
          have HMK := Lib.hid hmk
          have HBAD := Lib.hid hbad
          clear hmk hbad
          have hbw2 := fun (w9 : World) (hb9 : Below W2.heap.size W2 w9) => bon hbw (bon hbx hb9)
          have HFIN := Lib.hid hbw2
          have HFIN2 : Hid (∀ w9 : World, Below W2.heap.size W2 w9 → Below wo.heap.size wo w9) := Lib.hid (fun w9 hb9 => bon hb (bon hbx hb9))
          clear hbw2
          have HLT0 : Hid (∀ e : Ext W2, Calls Tryz.prog 54 #[.slice a3 (ixM p.min k).lits.length c3, .int .i64 p.n] e.world fun x w' => x = .returned (.bool (orderedB (ixM p.min k).lits p.n)) ∧ Below e.world.heap.size e.world w') := Lib.hid (fun e => lits_ref _ _ _ _ (HL.out e) hn4)
          have HTT0 : Hid (∀ e : Ext W2, Calls Tryz.prog 55 #[.slice a4 (ixM p.min k).w.length c4, .int .i64 1] e.world fun x w' => x = .returned (.int .i64 (totI (ixM p.min k).w)) ∧ e.world = w') := Lib.hid (fun e => total_def _ _ _ (HW2.out e))
          clear HL HW2
          cases g1 : orderedB (ixM p.min k).lits p.n with
          | false =>
            have HB := HBAD.out (by rw [HMK.out, g1]; rfl)
            rw [g1] at HLT0
            have HLT := HLT0
            go_wp2
            refine wp_region_ext (by kernel_rfl) (by kernel_rfl) ?_
            repeat (go_big_quiet_step ((first | (go_at_call 54; exact Calls.ext_of (HLT.out _)) | (go_at_call 55; exact Calls.ext_of_same (HTT.out _)))))
            refine wpQuiet_nil ?_
            intro _ hw'
            obtain ⟨⟨w9, hb9⟩, rfl⟩ := hw'
            try dsimp only
            go_wp2
            go_ret
            exact ⟨ret_int HB.out.symm, HFIN.out _ hb9⟩
          | true =>
          rw [g1] at HLT0
          have HLT := HLT0
          by_cases g7 : (ixM p.min k).w.length = (ixM p.min k).lits.length
          case neg =>
            have g7' : (((ixM p.min k).w.length : Int) != ((ixM p.min k).lits.length : Int)) = true := by simp; omega
            have HB := HBAD.out (by
              have : weightsB (ixM p.min k).w (ixM p.min k).lits.length = false := by
                unfold weightsB
                rw [show decide (((ixM p.min k).w.length : Int) = ((ixM p.min k).lits.length : Int)) = false from decide_eq_false (by omega)]; simp
              rw [HMK.out, g1, this]; rfl)
            clear g7
            go_wp2
            refine wp_region_ext (by kernel_rfl) (by kernel_rfl) ?_
            repeat (go_big_quiet_step ((first | (go_at_call 54; exact Calls.ext_of (HLT.out _)) | (go_at_call 55; exact Calls.ext_of_same (HTT.out _)))))
            refine wpQuiet_nil ?_
            intro _ hw'
            obtain ⟨⟨w9, hb9⟩, rfl⟩ := hw'
            try dsimp only
            go_wp2
            go_ret
            exact ⟨ret_int HB.out.symm, HFIN.out _ hb9⟩
          have g7' : (((ixM p.min k).w.length : Int) != ((ixM p.min k).lits.length : Int)) = false := by simp [g7]
          cases g2 : weightsB (ixM p.min k).w (ixM p.min k).lits.length with
          | false =>
            have HB := HBAD.out (by rw [HMK.out, g1, g2]; rfl)
            have ht : totI (ixM p.min k).w = -1 := by unfold totI; rw [g7, g2]; rfl
            rw [ht] at HTT0
            have HTT := HTT0
            clear g7 ht
            go_wp2
            refine wp_region_ext (by kernel_rfl) (by kernel_rfl) ?_
            repeat (go_big_quiet_step ((first | (go_at_call 54; exact Calls.ext_of (HLT.out _)) | (go_at_call 55; exact Calls.ext_of_same (HTT.out _)))))
            refine wpQuiet_nil ?_
            intro _ hw'
            obtain ⟨⟨w9, hb9⟩, rfl⟩ := hw'
            try dsimp only
            go_wp2
            go_ret
            exact ⟨ret_int HB.out.symm, HFIN.out _ hb9⟩
          | true =>
          have ht : 0 ≤ totI (ixM p.min k).w := totI_pos (by rw [g7]; exact g2)
          have ht' : decide (totI (ixM p.min k).w < 0) = false := decide_eq_false (by omega)
          have HTT := HTT0
          clear g7
          by_cases g3 : (ixM p.min k).level < -2147483647
          · have HB := HBAD.out (by rw [HMK.out, g1, g2]; simp; omega)
            go_wp2
            refine wp_region_ext (by kernel_rfl) (by kernel_rfl) ?_
            repeat (go_big_quiet_step ((first | (go_at_call 54; exact Calls.ext_of (HLT.out _)) | (go_at_call 55; exact Calls.ext_of_same (HTT.out _)))))
            refine wpQuiet_nil ?_
            intro _ hw'
            obtain ⟨⟨w9, hb9⟩, rfl⟩ := hw'
            try dsimp only
            go_wp2
            go_ret
            exact ⟨ret_int HB.out.symm, HFIN.out _ hb9⟩
          have g3' : decide ((ixM p.min k).level < -2147483647) = false := by simp; omega
          by_cases g4 : 2147483647 < (ixM p.min k).level
          · have HB := HBAD.out (by rw [HMK.out, g1, g2]; simp; omega)
            go_wp2
            refine wp_region_ext (by kernel_rfl) (by kernel_rfl) ?_
            repeat (go_big_quiet_step ((first | (go_at_call 54; exact Calls.ext_of (HLT.out _)) | (go_at_call 55; exact Calls.ext_of_same (HTT.out _)))))
            refine wpQuiet_nil ?_
            intro _ hw'
            obtain ⟨⟨w9, hb9⟩, rfl⟩ := hw'
            try dsimp only
            go_wp2
            go_ret
            exact ⟨ret_int HB.out.symm, HFIN.out _ hb9⟩
          have g4' : decide (2147483647 < (ixM p.min k).level) = false := by simp; omega
          have g34 : decide (-2147483647 ≤ (ixM p.min k).level ∧ (ixM p.min k).level ≤ 2147483647) = true := by simp; omega
          by_cases hk0 : k = 0
          · have hkp : decide (0 < k) = false := by simp; omega
            have HZ : Hid (minAt p.min p.n k = true) := Lib.hid (by rw [HMK.out, g1, g2, g34, hk0]; rfl)
            clear hk0 g34
            go_wp2
            refine wp_region_ext (by kernel_rfl) (by kernel_rfl) ?_
            repeat (go_big_quiet_step ((first | (go_at_call 54; exact Calls.ext_of (HLT.out _)) | (go_at_call 55; exact Calls.ext_of_same (HTT.out _)))))
            refine wpQuiet_nil ?_
            intro _ hw'
            obtain ⟨⟨w9, hb9⟩, rfl⟩ := hw'
            try dsimp only
            go_wp2
            first
              | (go_roundw
                 case rel => (exact ⟨k + 1, by omega, by go_num, lt_succ_all HOK.out HZ.out, HFIN2.out _ hb9⟩)
                 case measure => (simp [intOf]; omega))
              | (refine ⟨?_, ?_⟩
                 · (exact ⟨k + 1, by omega, by go_num, lt_succ_all HOK.out HZ.out, HFIN2.out _ hb9⟩)
                 · (simp [intOf]; omega))
          have hkp : decide (0 < k) = true := by simp; omega
          have hkq : (0 : Int) < (k : Int) := by omega
          have hkn : (0 : Int) ≤ (k : Int) - 1 := by omega
          have hkm : ((k : Int) - 1).toNat = k - 1 := by omega
          have hkb : (k == 0) = false := by simp [hk0]
          by_cases g5 : (ixM p.min (k - 1)).level ≤ (ixM p.min k).level
          · have HB := HBAD.out (by rw [HMK.out, g1, g2, g34, hkb]; simp; omega)
            clear g34 hkb
            go_wp2
            refine wp_region_ext (by kernel_rfl) (by kernel_rfl) ?_
            repeat (go_big_quiet_step ((first | (go_at_call 54; exact Calls.ext_of (HLT.out _)) | (go_at_call 55; exact Calls.ext_of_same (HTT.out _)))))
            refine wpQuiet_nil ?_
            intro _ hw'
            obtain ⟨⟨w9, hb9⟩, rfl⟩ := hw'
            try dsimp only
            go_wp2
            go_ret
            exact ⟨ret_int HB.out.symm, HFIN.out _ hb9⟩
          · have g5' : decide ((ixM p.min (k - 1)).level ≤ (ixM p.min k).level) = false := by simp; omega
            have HZ : Hid (minAt p.min p.n k = true) := Lib.hid (by rw [HMK.out, g1, g2, g34, hkb]; simp; omega)
            clear g34 hkb
            go_wp2
            refine wp_region_ext (by kernel_rfl) (by kernel_rfl) ?_
            repeat (go_big_quiet_step ((first | (go_at_call 54; exact Calls.ext_of (HLT.out _)) | (go_at_call 55; exact Calls.ext_of_same (HTT.out _)))))
            refine wpQuiet_nil ?_
            intro _ hw'
            obtain ⟨⟨w9, hb9⟩, rfl⟩ := hw'
            try dsimp only
            go_wp2
            first
              | (go_roundw
                 case rel => (exact ⟨k + 1, by omega, by go_num, lt_succ_all HOK.out HZ.out, HFIN2.out _ hb9⟩)
                 case measure => (simp [intOf]; omega))
              | (refine ⟨?_, ?_⟩
                 · (exact ⟨k + 1, by omega, by go_num, lt_succ_all HOK.out HZ.out, HFIN2.out _ hb9⟩)
                 · (simp [intOf]; omega))
        · have HL2 : Hid (k = p.min.length) := Lib.hid (by omega)
          have HE : Hid (validE p = 0) := Lib.hid (by rw [HF.out, minsB, allR_true (by rw [← HL2.out]; exact HOK.out)]; simp [h3])
          go_wp2
          go_ret
          exact ⟨ret_int HE.out.symm, hbw⟩

end Go.Proofs.YtfhpfbakoiekpaaGreatDoor
