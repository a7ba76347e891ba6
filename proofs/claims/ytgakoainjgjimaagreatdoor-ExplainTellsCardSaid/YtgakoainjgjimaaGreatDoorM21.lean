/- My texts Ref17a, Ref17b, Ref17c, merged. -/
import Derived.Test.YtgakoainjgjimaaGreatDoorM04
import Derived.Test.YtgakoainjgjimaaGreatDoorM03
import Derived.Test.YtgakoainjgjimaaGreatDoorM00
import Derived.Test.YtgakoainjgjimaaGreatDoorProg
import Derived.WalkKit
import Derived.Lib.Hide
import Derived.Deep.QuietTactic
import Derived.BigQuiet
import Derived.Lib.Bytealg
import Derived.MapKept
import Derived.Maps.OwnSet
import Derived.Maps.OwnOps
import Derived.WalkSpells
import Derived.Lib.SliceRun
import Derived.Deep.DeepCutAuto

namespace Go.Proofs.YtgakoainjgjimaaGreatDoor
open Go.RowKit
def atomAt (l : List Int) (n : Int) (i : Nat) : Bool := decide (1 ≤ ix l i ∧ ix l i ≤ n) && (i == 0 || decide (ix l (i - 1) < ix l i))
theorem ordI_pos {x y : Int} (hx : 1 ≤ x) (hy : 1 ≤ y) : ordI x y < 0 ↔ x < y := by
  unfold ordI orI cmpI
  grind
theorem atoms_increasing (l : List Int) (n : Int) : increasingB l n = allR l.length (atomAt l n) := by
  rw [Bool.eq_iff_iff]
  constructor
  · intro h
    refine allR_true fun i hi => ?_
    unfold increasingB orderedB at h
    simp only [Bool.and_eq_true] at h
    have h1 := allR_get h.1 i hi
    have h2 := allR_get h.2 i hi
    simp only [okAt, litB, Bool.and_eq_true, Bool.or_eq_true, beq_iff_eq, decide_eq_true_eq] at h1 h2
    simp only [atomAt, Bool.and_eq_true, Bool.or_eq_true, beq_iff_eq, decide_eq_true_eq]
    refine ⟨by omega, ?_⟩
    rcases h1.2 with h3 | h3
    · exact .inl h3
    · by_cases hi0 : i = 0
      · exact .inl hi0
      · have h4 := allR_get h.2 (i - 1) (by omega)
        simp only [decide_eq_true_eq] at h4
        exact .inr ((ordI_pos (by omega) (by omega)).1 h3)
  · intro h
    have hp : ∀ i, i < l.length → 1 ≤ ix l i ∧ ix l i ≤ n ∧ (i = 0 ∨ ix l (i - 1) < ix l i) := fun i hi => by
      have := allR_get h i hi
      simp only [atomAt, Bool.and_eq_true, Bool.or_eq_true, beq_iff_eq, decide_eq_true_eq] at this
      exact ⟨this.1.1, this.1.2, this.2⟩
    unfold increasingB orderedB
    rw [Bool.and_eq_true]
    refine ⟨allR_true fun i hi => ?_, allR_true fun i hi => by have := hp i hi; simp only [decide_eq_true_eq]; omega⟩
    have h1 := hp i hi
    simp only [okAt, litB, Bool.and_eq_true, Bool.or_eq_true, beq_iff_eq, decide_eq_true_eq]
    refine ⟨by omega, ?_⟩
    by_cases hi0 : i = 0
    · exact .inl hi0
    · have h2 := hp (i - 1) (by omega)
      exact .inr ((ordI_pos (by omega) (by omega)).2 (by omega))
def AtRel (l : List Int) (P : Nat → Bool) (w : World) (i : Value) (wx : World) : Prop := ∃ k : Nat, k ≤ l.length ∧ i = .int .i64 k ∧ (∀ j, j < k → P j = true) ∧ Below w.heap.size w wx
set_option maxHeartbeats 2000000 in
theorem atoms_ref (v : Value) (l : List Int) (n : Int) (w : World) (h : Ints w v l) :
    Calls Tryz.prog 55 #[v, .int .i64 n] w fun e w' => e = .returned (.bool (increasingB l n)) ∧ Below w.heap.size w w' := by
  have HE := Lib.hid (atoms_increasing l n)
  obtain ⟨a, c, rfl, -, hl, -, hcell⟩ := h.form
  have HFI := Lib.hid h.2
  clear h
  go_enter Tryz.func55, Tryz.ntmps55
  go_wp2
  go_loopw [5] (fun i wx => AtRel l (atomAt l n) w i wx) (fun i _ => l.length - (intOf i).toNat)
  case atStart => exact ⟨0, by omega, rfl, fun j hj => absurd hj (Nat.not_lt_zero _), Below.refl _ _⟩
  case round =>
    obtain ⟨k, hk, rfl, hall, hb⟩ := hrel
    have HA := Lib.hid hall
    clear hall
    by_cases hlt : k < l.length
    · obtain ⟨b, off, rfl, hbl, hc⟩ := hcell (by omega)
      have hlr : b < wr.heap.size := Nat.lt_of_lt_of_le hbl hb.size
      have k1 : ∀ e : Ext wr, e.world.cell? ⟨b, off + k, none⟩ = some (.int .i64 (ix l k)) := fun e => (bcell e.below _ _ hlr).trans ((bcell hb _ _ hbl).trans (hc k hlt))
      have HK := Lib.hid (show atomAt l n k = (decide (1 ≤ ix l k ∧ ix l k ≤ n) && (k == 0 || decide (ix l (k - 1) < ix l k))) from rfl)
      have HB : Hid (atomAt l n k = false → increasingB l n = false) := Lib.hid (fun h => by rw [HE.out]; exact allR_false k hlt h)
      have HG : Hid (atomAt l n k = true → ∀ j, j < k + 1 → atomAt l n j = true) := Lib.hid (fun h => lt_succ_all HA.out h)
      have hf := HFI.out k
      by_cases c1 : ix l k < 1
      · have HF := Lib.hid (HB.out (by rw [HK.out, decide_eq_false (by omega)]; rfl))
        clear hc
        have d1 : decide (ix l k < 1) = true := decide_eq_true c1
        go_wp2
        refine wp_region_ext (by kernel_rfl) (by kernel_rfl) ?_
        repeat (go_big_quiet_step (fail))
        refine wpQuiet_nil ?_
        intro _ hw'
        obtain ⟨⟨w9, hb9⟩, rfl⟩ := hw'
        try dsimp only
        go_wp2
        go_ret
        exact ⟨ret_bool HF.out.symm, bon hb hb9⟩
      · have d1 : decide (ix l k < 1) = false := decide_eq_false c1
        by_cases c2 : n < ix l k
        · have HF := Lib.hid (HB.out (by rw [HK.out, decide_eq_false (by omega)]; rfl))
          clear hc
          have d2 : decide (n < ix l k) = true := decide_eq_true c2
          go_wp2
          refine wp_region_ext (by kernel_rfl) (by kernel_rfl) ?_
          repeat (go_big_quiet_step (fail))
          refine wpQuiet_nil ?_
          intro _ hw'
          obtain ⟨⟨w9, hb9⟩, rfl⟩ := hw'
          try dsimp only
          go_wp2
          go_ret
          exact ⟨ret_bool HF.out.symm, bon hb hb9⟩
        · have d2 : decide (n < ix l k) = false := decide_eq_false c2
          by_cases c3 : k = 0
          · subst c3
            have k10 : ∀ e : Ext wr, e.world.cell? ⟨b, off, none⟩ = some (.int .i64 (ix l 0)) := k1
            have HN := Lib.hid (HG.out (by rw [HK.out, decide_eq_true (by omega)]; rfl))
            clear hc
            go_wp2
            refine wp_region_ext (by kernel_rfl) (by kernel_rfl) ?_
            repeat (go_big_quiet_step (fail))
            refine wpQuiet_nil ?_
            intro _ hw'
            obtain ⟨⟨w9, hb9⟩, rfl⟩ := hw'
            try dsimp only
            go_wp2
            first
              | (go_roundw
                 case rel => (exact ⟨1, by omega, by go_num, HN.out, bon hb hb9⟩)
                 case measure => (simp [intOf]; omega))
              | (refine ⟨?_, ?_⟩
                 · (exact ⟨1, by omega, by go_num, HN.out, bon hb hb9⟩)
                 · (simp [intOf]; omega))
          · have c3' : 0 < k := by omega
            have d3 : decide (0 < k) = true := decide_eq_true c3'
            have k2 : ∀ e : Ext wr, e.world.cell? ⟨b, off + (k - 1), none⟩ = some (.int .i64 (ix l (k - 1))) := fun e => (bcell e.below _ _ hlr).trans ((bcell hb _ _ hbl).trans (hc (k - 1) (by omega)))
            have hf2 := HFI.out (k - 1)
            clear hc
            by_cases c4 : ix l k ≤ ix l (k - 1)
            · have HF := Lib.hid (HB.out (by rw [HK.out, show decide (ix l (k - 1) < ix l k) = false from decide_eq_false (by omega), show (k == 0) = false from beq_eq_false_iff_ne.2 c3]; simp))
              have d4 : decide (ix l k ≤ ix l (k - 1)) = true := decide_eq_true c4
              go_wp2
              refine wp_region_ext (by kernel_rfl) (by kernel_rfl) ?_
              repeat (go_big_quiet_step (fail))
              refine wpQuiet_nil ?_
              intro _ hw'
              obtain ⟨⟨w9, hb9⟩, rfl⟩ := hw'
              try dsimp only
              go_wp2
              go_ret
              exact ⟨ret_bool HF.out.symm, bon hb hb9⟩
            · have HN := Lib.hid (HG.out (by rw [HK.out, show decide (ix l (k - 1) < ix l k) = true from decide_eq_true (by omega), show decide (1 ≤ ix l k ∧ ix l k ≤ n) = true from decide_eq_true (by omega)]; simp))
              have d4 : decide (ix l k ≤ ix l (k - 1)) = false := decide_eq_false c4
              go_wp2
              refine wp_region_ext (by kernel_rfl) (by kernel_rfl) ?_
              repeat (go_big_quiet_step (fail))
              refine wpQuiet_nil ?_
              intro _ hw'
              obtain ⟨⟨w9, hb9⟩, rfl⟩ := hw'
              try dsimp only
              go_wp2
              first
                | (go_roundw
                   case rel => (exact ⟨k + 1, by omega, by go_num, HN.out, bon hb hb9⟩)
                   case measure => (simp [intOf]; omega))
                | (refine ⟨?_, ?_⟩
                   · (exact ⟨k + 1, by omega, by go_num, HN.out, bon hb hb9⟩)
                   · (simp [intOf]; omega))
    · have HF : Hid (increasingB l n = true) := Lib.hid (by rw [HE.out]; exact allR_true (fun j hj => HA.out j (by omega)))
      go_wp2
      go_ret
      exact ⟨ret_bool HF.out.symm, hb⟩
theorem before_any (x y : Int) (w : World) (h : -4611686018427387904 ≤ x ∧ x ≤ 4611686018427387904) (g : -4611686018427387904 ≤ y ∧ y ≤ 4611686018427387904) :
    Calls Tryz.prog 122 #[.int .i64 x, .int .i64 y] w fun e w' => e = .returned (.bool (decide (ordI x y < 0))) ∧ w = w' := by
  have HO : Hid (decide (ordI x y < 0) = (decide (x.natAbs < y.natAbs) || (decide (x.natAbs = y.natAbs) && decide (y < x)))) := Lib.hid (by
    unfold ordI orI cmpI
    grind)
  by_cases hx : x < 0 <;> by_cases hy : y < 0
  all_goals
    go_enter Tryz.func122, Tryz.ntmps122
    go_wp2
    all_goals
      go_ret
      exact ⟨ret_bool (by first | (rw [HO.out]; grind) | (unfold ordI orI cmpI; grind)), rfl⟩
set_option maxHeartbeats 2000000 in
theorem lits_ref (v : Value) (l : List Int) (n : Int) (w : World) (h : Ints w v l) (hn : 0 ≤ n ∧ n ≤ 4000) :
    Calls Tryz.prog 82 #[v, .int .i64 n] w fun e w' => e = .returned (.bool (orderedB l n)) ∧ Below w.heap.size w w' := by
  have HE : Hid (orderedB l n = allR l.length (okAt l n)) := Lib.hid rfl
  obtain ⟨a, c, rfl, -, hl, -, hcell⟩ := h.form
  have HFI := Lib.hid h.2
  clear h
  go_enter Tryz.func82, Tryz.ntmps82
  go_wp2
  go_loopw [5] (fun i wx => AtRel l (okAt l n) w i wx) (fun i _ => l.length - (intOf i).toNat)
  case atStart => exact ⟨0, by omega, rfl, fun j hj => absurd hj (Nat.not_lt_zero _), Below.refl _ _⟩
  case round =>
    obtain ⟨k, hk, rfl, hall, hb⟩ := hrel
    have HA := Lib.hid hall
    clear hall
    by_cases hlt : k < l.length
    · obtain ⟨b, off, rfl, hbl, hc⟩ := hcell (by omega)
      have hlr : b < wr.heap.size := Nat.lt_of_lt_of_le hbl hb.size
      have kk : wr.cell? ⟨b, off + k, none⟩ = some (.int .i64 (ix l k)) := (bcell hb _ _ hbl).trans (hc k hlt)
      have k1 : ∀ e : Ext wr, e.world.cell? ⟨b, off + k, none⟩ = some (.int .i64 (ix l k)) := fun e => (bcell e.below _ _ hlr).trans kk
      have HK := Lib.hid (show okAt l n k = (litB (ix l k) n && (k == 0 || decide (ordI (ix l (k - 1)) (ix l k) < 0))) from rfl)
      have HB : Hid (okAt l n k = false → orderedB l n = false) := Lib.hid (fun h => by rw [HE.out]; exact allR_false k hlt h)
      have HG : Hid (okAt l n k = true → ∀ j, j < k + 1 → okAt l n j = true) := Lib.hid (fun h => lt_succ_all HA.out h)
      have hf := HFI.out k
      by_cases c0 : ix l k = 0 ∨ n < ix l k ∨ ix l k < -n
      · have HF := Lib.hid (HB.out (by rw [HK.out, show litB (ix l k) n = false from decide_eq_false (by omega)]; rfl))
        clear hc k1
        rcases c0 with c0 | c0 | c0
        · have d0 : (ix l k == 0) = true := beq_iff_eq.2 c0
          rw [c0] at kk
          clear d0 c0
          go_wp2
          go_ret
          exact ⟨ret_bool HF.out.symm, hb⟩
        · have d0 : (ix l k == 0) = false := beq_eq_false_iff_ne.2 (by omega)
          go_wp2
          go_ret
          exact ⟨ret_bool HF.out.symm, hb⟩
        · have d0 : (ix l k == 0) = false := beq_eq_false_iff_ne.2 (by omega)
          go_wp2
          go_ret
          exact ⟨ret_bool HF.out.symm, hb⟩
      · have d0 : (ix l k == 0) = false := beq_eq_false_iff_ne.2 (by omega)
        have c1 : -n ≤ ix l k ∧ ix l k ≤ n := by omega
        have HL : Hid (litB (ix l k) n = true) := Lib.hid (decide_eq_true (by omega))
        by_cases c3 : k = 0
        · subst c3
          have k10 : ∀ e : Ext wr, e.world.cell? ⟨b, off, none⟩ = some (.int .i64 (ix l 0)) := k1
          have kk0 : wr.cell? ⟨b, off, none⟩ = some (.int .i64 (ix l 0)) := kk
          have HN := Lib.hid (HG.out (by rw [HK.out, HL.out]; rfl))
          clear hc c0
          go_wp2
          refine wp_region_ext (by kernel_rfl) (by kernel_rfl) ?_
          repeat (go_big_quiet_step (fail))
          refine wpQuiet_nil ?_
          intro _ hw'
          obtain ⟨⟨w9, hb9⟩, rfl⟩ := hw'
          try dsimp only
          go_wp2
          first
            | (go_roundw
               case rel => (exact ⟨1, by omega, by go_num, HN.out, bon hb hb9⟩)
               case measure => (simp [intOf]; omega))
            | (refine ⟨?_, ?_⟩
               · (exact ⟨1, by omega, by go_num, HN.out, bon hb hb9⟩)
               · (simp [intOf]; omega))
        · have c3' : 0 < k := by omega
          have d3 : decide (0 < k) = true := decide_eq_true c3'
          have k2 : ∀ e : Ext wr, e.world.cell? ⟨b, off + (k - 1), none⟩ = some (.int .i64 (ix l (k - 1))) := fun e => (bcell e.below _ _ hlr).trans ((bcell hb _ _ hbl).trans (hc (k - 1) (by omega)))
          have hprev := HA.out (k - 1) (by omega)
          simp only [okAt, litB, Bool.and_eq_true, decide_eq_true_eq] at hprev
          have c2 : -n ≤ ix l (k - 1) ∧ ix l (k - 1) ≤ n := ⟨hprev.1.2.1, hprev.1.2.2⟩
          clear hc c0 hprev
          cases c4 : decide (ordI (ix l (k - 1)) (ix l k) < 0) with
          | true =>
            have HN := Lib.hid (HG.out (by rw [HK.out, HL.out, c4]; simp))
            have HBF : Hid (∀ e : Ext wr, Calls Tryz.prog 122 #[.int .i64 (ix l (k - 1)), .int .i64 (ix l k)] e.world fun x w' => x = .returned (.bool true) ∧ e.world = w') := Lib.hid (fun e => by
              rw [← c4]; exact before_any _ _ _ (by omega) (by omega))
            go_wp2
            refine wp_region_ext (by kernel_rfl) (by kernel_rfl) ?_
            repeat (go_big_quiet_step ((first | (go_at_call 122; exact Calls.ext_of_same (HBF.out _)))))
            refine wpQuiet_nil ?_
            intro _ hw'
            obtain ⟨⟨w9, hb9⟩, rfl⟩ := hw'
            try dsimp only
            go_wp2
            first
              | (go_roundw
                 case rel => (exact ⟨k + 1, by omega, by go_num, HN.out, bon hb hb9⟩)
                 case measure => (simp [intOf]; omega))
              | (refine ⟨?_, ?_⟩
                 · (exact ⟨k + 1, by omega, by go_num, HN.out, bon hb hb9⟩)
                 · (simp [intOf]; omega))
          | false =>
            have HF := Lib.hid (HB.out (by rw [HK.out, HL.out, c4, show (k == 0) = false from beq_eq_false_iff_ne.2 c3]; rfl))
            have HBF : Hid (∀ e : Ext wr, Calls Tryz.prog 122 #[.int .i64 (ix l (k - 1)), .int .i64 (ix l k)] e.world fun x w' => x = .returned (.bool false) ∧ e.world = w') := Lib.hid (fun e => by
              rw [← c4]; exact before_any _ _ _ (by omega) (by omega))
            go_wp2
            refine wp_region_ext (by kernel_rfl) (by kernel_rfl) ?_
            repeat (go_big_quiet_step ((first | (go_at_call 122; exact Calls.ext_of_same (HBF.out _)))))
            refine wpQuiet_nil ?_
            intro _ hw'
            obtain ⟨⟨w9, hb9⟩, rfl⟩ := hw'
            try dsimp only
            go_wp2
            go_ret
            exact ⟨ret_bool HF.out.symm, bon hb hb9⟩
    · have HF : Hid (orderedB l n = true) := Lib.hid (by rw [HE.out]; exact allR_true (fun j hj => HA.out j (by omega)))
      go_wp2
      go_ret
      exact ⟨ret_bool HF.out.symm, hb⟩
def totI (l : List Int) : Int := if weightsB l l.length then sumTo l l.length else -1
def TotPost (l : List Int) (w : World) (e : Ending) (w' : World) : Prop := e = .returned (.int .i64 (totI l)) ∧ w = w'
theorem weights_sum' {l : List Int} {n : Int} (h : weightsB l n = true) : (∀ k, k < l.length → 1 ≤ ix l k) ∧ ∀ k, k ≤ l.length → 0 ≤ sumTo l k ∧ sumTo l k ≤ 1048576 := by
  unfold weightsB at h
  simp only [Bool.and_eq_true, decide_eq_true_eq] at h
  refine ⟨fun k hk => by have := allR_get h.1 k hk; simp at this; omega, fun k => ?_⟩
  induction k with
  | zero => intro _; simp [sumTo]
  | succ k ih =>
    intro hk
    have h1 := allR_get h.1 k (by omega)
    simp only [decide_eq_true_eq] at h1
    have := ih (by omega)
    unfold sumTo; omega
def TotRel (l : List Int) (s i : Value) : Prop := ∃ k : Nat, k ≤ l.length ∧ i = .int .i64 k ∧ s = .int .i64 (sumTo l k) ∧ (∀ j, j < k → 1 ≤ ix l j ∧ ix l j ≤ 1048576 - sumTo l j) ∧ 0 ≤ sumTo l k ∧ sumTo l k ≤ 1048576
set_option maxHeartbeats 2000000 in
theorem total_def (v : Value) (l : List Int) (w : World) (h : Ints w v l) :
    Calls Tryz.prog 83 #[v, .int .i64 1] w (TotPost l w) := by
  obtain ⟨a, c, rfl, -, hl, -, hcell⟩ := h.form
  have HFI := Lib.hid h.2
  clear h
  have HE : Hid (weightsB l l.length = allR l.length (fun i => decide (1 ≤ ix l i ∧ ix l i ≤ 1048576 - sumTo l i))) := Lib.hid (by unfold weightsB; simp)
  go_enter Tryz.func83, Tryz.ntmps83
  go_wp2
  go_loop [5, 6] (fun s i => TotRel l s i) (fun _ i => l.length - (intOf i).toNat)
  case atStart => exact ⟨0, by omega, rfl, rfl, fun j hj => absurd hj (Nat.not_lt_zero _), by simp [sumTo], by simp [sumTo]⟩
  case round =>
    obtain ⟨k, hk, rfl, rfl, hall, hs0, hs1⟩ := hrel
    have HA := Lib.hid hall
    clear hall
    by_cases hlt : k < l.length
    · obtain ⟨b, off, rfl, hbl, hc⟩ := hcell (by omega)
      have hk1 := hc k hlt
      have hf := HFI.out k
      have HS : Hid (sumTo l (k + 1) = sumTo l k + ix l k) := Lib.hid rfl
      have HB : Hid (¬ (1 ≤ ix l k ∧ ix l k ≤ 1048576 - sumTo l k) → TotPost l w (.returned (.int .i64 (-1))) w) := Lib.hid (fun h => ⟨by
        unfold totI
        rw [HE.out, allR_false k hlt (decide_eq_false h)]; rfl, rfl⟩)
      clear hc hcell
      by_cases c1 : 1 ≤ ix l k ∧ ix l k ≤ 1048576
      · by_cases c2 : sumTo l k + ix l k ≤ 1048576
        · have HN : Hid (∀ j, j < k + 1 → 1 ≤ ix l j ∧ ix l j ≤ 1048576 - sumTo l j) := Lib.hid (lt_succ_all HA.out (by omega))
          go_wp2
          first
            | (go_round
               case rel => (exact ⟨k + 1, by omega, by go_num, by rw [HS.out], HN.out, by rw [HS.out]; omega, by rw [HS.out]; omega⟩)
               case measure => (simp [intOf]; omega))
            | (refine ⟨?_, ?_⟩
               · (exact ⟨k + 1, by omega, by go_num, by rw [HS.out], HN.out, by rw [HS.out]; omega, by rw [HS.out]; omega⟩)
               · (simp [intOf]; omega))
        · have HP := Lib.hid (HB.out (by omega))
          go_wp2
          go_ret
          exact HP.out
      · have HP := Lib.hid (HB.out (by omega))
        by_cases c3 : ix l k < 1
        · go_wp2
          go_ret
          exact HP.out
        · have c4 : 1048576 < ix l k := by omega
          go_wp2
          go_ret
          exact HP.out
    · obtain rfl : k = l.length := by omega
      have HT : Hid (weightsB l l.length = true) := Lib.hid (by rw [HE.out]; exact allR_true (fun j hj => decide_eq_true (HA.out j hj)))
      have HP : Hid (TotPost l w (.returned (.int .i64 (sumTo l l.length))) w) := Lib.hid ⟨by unfold totI; rw [HT.out]; rfl, rfl⟩
      clear HT
      go_wp2
      go_ret
      exact HP.out
theorem totI_pos {l : List Int} (h : weightsB l l.length = true) : 0 ≤ totI l := by
  unfold totI
  rw [h]
  have := (weights_sum' h).2 l.length (Nat.le_refl _)
  simp only [if_true]; omega
theorem total_ref (v : Value) (l : List Int) (w : World) (h : Ints w v l) :
    Calls Tryz.prog 83 #[v, .int .i64 1] w fun e w' => ∃ t : Int, e = .returned (.int .i64 t) ∧ (weightsB l l.length = true → 0 ≤ t) ∧ (weightsB l l.length = false → t = -1) ∧ w = w' :=
  (total_def v l w h).mono fun _ _ ⟨he, hw⟩ => ⟨_, he, totI_pos, fun h => by unfold totI; rw [h]; rfl, hw⟩
set_option maxHeartbeats 4000000 in
set_option maxRecDepth 100000 in
theorem rule_ref (v : Value) (r : GR) (n : Int) (w : World) (h : RuleIs w v r) (hn : InI n) :
    Calls Tryz.prog 81 #[v, .int .i64 n] w fun e w' => e = .returned (.int .i64 (ruleE r n)) ∧ Below w.heap.size w w' := by
  obtain ⟨vh, vb, vw, rfl, hsl⟩ := h
  have hal := bal (Below.refl w.heap.size w) (.cells #[.bool r.choice, vh, .bool r.sum, .int .i64 r.bound, vb, vw] 64)
  have HH := Lib.hid (hsl.head.below hal)
  have HB := Lib.hid (hsl.body.below hal)
  have HW := Lib.hid (hsl.wts.below hal)
  have hbi := hsl.bound
  obtain ⟨a1, c1, rfl, -, hl1, -, -⟩ := hsl.head.form
  obtain ⟨a2, c2, rfl, -, hl2, -, -⟩ := hsl.body.form
  obtain ⟨a3, c3, rfl, -, hl3, -, -⟩ := hsl.wts.form
  unfold InI at hn hbi
  clear hsl
  by_cases h1 : n < 0 ∨ 4000 < n
  · have HF : Hid (ruleE r n = 2) := Lib.hid (by unfold ruleE; rw [if_pos h1])
    rcases h1 with h1 | h1
    · go_enter Tryz.func81, Tryz.ntmps81
      go_wp2
      go_ret
      exact ⟨ret_int HF.out.symm, hal⟩
    · go_enter Tryz.func81, Tryz.ntmps81
      go_wp2
      go_ret
      exact ⟨ret_int HF.out.symm, hal⟩
  have hn2 : 0 ≤ n ∧ n ≤ 4000 := by omega
  have HE : Hid (ruleE r n = if increasingB r.head n = false ∨ (r.choice = true ∧ r.head.length = 0) then 172
      else if orderedB r.body n = false then 173
      else if (r.sum = false ∧ (0 < r.w.length ∨ r.bound ≠ 0)) ∨ (r.sum = true ∧ (weightsB r.w r.body.length = false ∨ r.bound < 0 ∨ 1048576 < r.bound)) then 174
      else 0) := Lib.hid (by unfold ruleE; rw [if_neg h1])
  clear h1
  cases h2 : increasingB r.head n with
  | false =>
    have HF : Hid (ruleE r n = 172) := Lib.hid (by rw [HE.out, if_pos (.inl h2)])
    go_enter Tryz.func81, Tryz.ntmps81
    go_wp2_with (go_at_call 55; (with_reducible refine (atoms_ref _ _ n _ HH.out).mono ?_); rintro e w1 ⟨e1, hb1⟩; rw [h2] at e1; subst e1)
    go_ret
    exact ⟨ret_int HF.out.symm, bon hal hb1⟩
  | true =>
  by_cases h3 : r.choice = true ∧ r.head.length = 0
  · have HF : Hid (ruleE r n = 172) := Lib.hid (by rw [HE.out, if_pos (.inr h3)])
    obtain ⟨h3, h4⟩ := h3
    have hb4 : ((r.head.length : Int) == 0) = true := by simp [h4]
    generalize r.choice = rc at *
    subst h3
    clear h4
    go_enter Tryz.func81, Tryz.ntmps81
    go_wp2_with (go_at_call 55; (with_reducible refine (atoms_ref _ _ n _ HH.out).mono ?_); rintro e w1 ⟨e1, hb1⟩; rw [h2] at e1; subst e1; have hc1 := bcell hb1; have hz1 : w.heap.size < w1.heap.size := (by have := hb1.size; simp at this; omega))
    go_ret
    exact ⟨ret_int HF.out.symm, bon hal hb1⟩
  have HE2 : Hid (ruleE r n = if orderedB r.body n = false then 173
      else if (r.sum = false ∧ (0 < r.w.length ∨ r.bound ≠ 0)) ∨ (r.sum = true ∧ (weightsB r.w r.body.length = false ∨ r.bound < 0 ∨ 1048576 < r.bound)) then 174
      else 0) := Lib.hid (by rw [HE.out, if_neg (fun h => by rcases h with h | h; (rw [h2] at h; cases h); exact h3 h)])
  have hch : r.choice = false ∨ ((r.head.length : Int) == 0) = false := by
    cases hc : r.choice with
    | false => exact .inl rfl
    | true => exact .inr (beq_eq_false_iff_ne.2 (fun e => h3 ⟨hc, by omega⟩))
  clear h3 HE
  cases h5 : orderedB r.body n with
  | false =>
    have HF : Hid (ruleE r n = 173) := Lib.hid (by rw [HE2.out, if_pos h5])
    go_enter Tryz.func81, Tryz.ntmps81
    go_wp2_with (first | (go_at_call 55; (with_reducible refine (atoms_ref _ _ n _ HH.out).mono ?_); rintro e w1 ⟨e1, hb1⟩; rw [h2] at e1; subst e1; have hc1 := bcell hb1; have hz1 : w.heap.size < w1.heap.size := (by have := hb1.size; simp at this; omega); rcases hch with hch | hch) | (go_at_call 82; (with_reducible refine (lits_ref _ _ n _ (HB.out.below hb1) hn2).mono ?_); rintro e w2 ⟨e2, hb2⟩; rw [h5] at e2; subst e2; have hc2 := bcell hb2; have hz2 : w.heap.size < w2.heap.size := (by have := hb2.size; omega)))
    all_goals
      go_ret
      exact ⟨ret_int HF.out.symm, bon (bon hal hb1) hb2⟩
  | true =>
    have HE3 : Hid (ruleE r n = if (r.sum = false ∧ (0 < r.w.length ∨ r.bound ≠ 0)) ∨ (r.sum = true ∧ (weightsB r.w r.body.length = false ∨ r.bound < 0 ∨ 1048576 < r.bound)) then 174
      else 0) := Lib.hid (by rw [HE2.out, if_neg (by rw [h5]; simp)])
    clear HE2
    cases hs : r.sum with
    | false =>
      rw [hs] at hal HH HB HW
      by_cases h6 : 0 < r.w.length
      · have HF : Hid (ruleE r n = 174) := Lib.hid (by rw [HE3.out, if_pos (.inl ⟨hs, .inl h6⟩)])
        clear HE3
        go_enter Tryz.func81, Tryz.ntmps81
        go_wp2_with (first | (go_at_call 55; (with_reducible refine (atoms_ref _ _ n _ HH.out).mono ?_); rintro e w1 ⟨e1, hb1⟩; rw [h2] at e1; subst e1; have hc1 := bcell hb1; have hz1 : w.heap.size < w1.heap.size := (by have := hb1.size; simp at this; omega); rcases hch with hch | hch) | (go_at_call 82; (with_reducible refine (lits_ref _ _ n _ (HB.out.below hb1) hn2).mono ?_); rintro e w2 ⟨e2, hb2⟩; rw [h5] at e2; subst e2; have hc2 := bcell hb2; have hz2 : w.heap.size < w2.heap.size := (by have := hb2.size; omega)))
        all_goals
          go_ret
          exact ⟨ret_int HF.out.symm, bon (bon hal hb1) hb2⟩
      · by_cases h7 : r.bound = 0
        · have HF : Hid (ruleE r n = 0) := Lib.hid (by rw [HE3.out, if_neg (by rintro (⟨-, h | h⟩ | ⟨h, -⟩); (exact h6 h); (exact h h7); (rw [hs] at h; cases h))])
          have h7' : (r.bound != 0) = false := by simp [h7]
          clear HE3 h7
          go_enter Tryz.func81, Tryz.ntmps81
          go_wp2_with (first | (go_at_call 55; (with_reducible refine (atoms_ref _ _ n _ HH.out).mono ?_); rintro e w1 ⟨e1, hb1⟩; rw [h2] at e1; subst e1; have hc1 := bcell hb1; have hz1 : w.heap.size < w1.heap.size := (by have := hb1.size; simp at this; omega); rcases hch with hch | hch) | (go_at_call 82; (with_reducible refine (lits_ref _ _ n _ (HB.out.below hb1) hn2).mono ?_); rintro e w2 ⟨e2, hb2⟩; rw [h5] at e2; subst e2; have hc2 := bcell hb2; have hz2 : w.heap.size < w2.heap.size := (by have := hb2.size; omega)))
          all_goals
            go_ret
            exact ⟨ret_int HF.out.symm, bon (bon hal hb1) hb2⟩
        · have HF : Hid (ruleE r n = 174) := Lib.hid (by rw [HE3.out, if_pos (.inl ⟨hs, .inr h7⟩)])
          have h7' : (r.bound != 0) = true := by simp [h7]
          clear HE3 h7
          go_enter Tryz.func81, Tryz.ntmps81
          go_wp2_with (first | (go_at_call 55; (with_reducible refine (atoms_ref _ _ n _ HH.out).mono ?_); rintro e w1 ⟨e1, hb1⟩; rw [h2] at e1; subst e1; have hc1 := bcell hb1; have hz1 : w.heap.size < w1.heap.size := (by have := hb1.size; simp at this; omega); rcases hch with hch | hch) | (go_at_call 82; (with_reducible refine (lits_ref _ _ n _ (HB.out.below hb1) hn2).mono ?_); rintro e w2 ⟨e2, hb2⟩; rw [h5] at e2; subst e2; have hc2 := bcell hb2; have hz2 : w.heap.size < w2.heap.size := (by have := hb2.size; omega)))
          all_goals
            go_ret
            exact ⟨ret_int HF.out.symm, bon (bon hal hb1) hb2⟩
    | true =>
      rw [hs] at hal HH HB HW
      by_cases h6 : r.w.length = r.body.length
      · have h6' : ((r.w.length : Int) != (r.body.length : Int)) = false := by simp [h6]
        have HL6 := Lib.hid h6
        cases h8 : weightsB r.w r.body.length with
        | false =>
          have HF : Hid (ruleE r n = 174) := Lib.hid (by rw [HE3.out, if_pos (.inr ⟨hs, .inl h8⟩)])
          have HT : Hid (weightsB r.w r.w.length = false) := Lib.hid (by rw [h6]; exact h8)
          clear HE3 h6 h8
          go_enter Tryz.func81, Tryz.ntmps81
          go_wp2_with (first | (go_at_call 55; (with_reducible refine (atoms_ref _ _ n _ HH.out).mono ?_); rintro e w1 ⟨e1, hb1⟩; rw [h2] at e1; subst e1; have hc1 := bcell hb1; have hz1 : w.heap.size < w1.heap.size := (by have := hb1.size; simp at this; omega); rcases hch with hch | hch) | (go_at_call 82; (with_reducible refine (lits_ref _ _ n _ (HB.out.below hb1) hn2).mono ?_); rintro e w2 ⟨e2, hb2⟩; rw [h5] at e2; subst e2; have hc2 := bcell hb2; have hz2 : w.heap.size < w2.heap.size := (by have := hb2.size; omega)) | (go_at_call 83; (with_reducible refine (total_ref _ _ _ ((HW.out.below hb1).below hb2)).mono ?_); rintro e w3 ⟨t, rfl, ht1, ht2, rfl⟩; have htt := ht2 HT.out; subst htt; clear ht1 ht2))
          all_goals
            go_ret
            exact ⟨ret_int HF.out.symm, bon (bon hal hb1) hb2⟩
        | true =>
          have HT : Hid (weightsB r.w r.w.length = true) := Lib.hid (by rw [h6]; exact h8)
          have HE4 : Hid (ruleE r n = if r.bound < 0 ∨ 1048576 < r.bound then 174 else 0) := Lib.hid (by rw [HE3.out, hs, h8]; simp)
          clear HE3 h6 h8
          by_cases h9 : r.bound < 0
          · have HF : Hid (ruleE r n = 174) := Lib.hid (by rw [HE4.out, if_pos (.inl h9)])
            go_enter Tryz.func81, Tryz.ntmps81
            go_wp2_with (first | (go_at_call 55; (with_reducible refine (atoms_ref _ _ n _ HH.out).mono ?_); rintro e w1 ⟨e1, hb1⟩; rw [h2] at e1; subst e1; have hc1 := bcell hb1; have hz1 : w.heap.size < w1.heap.size := (by have := hb1.size; simp at this; omega); rcases hch with hch | hch) | (go_at_call 82; (with_reducible refine (lits_ref _ _ n _ (HB.out.below hb1) hn2).mono ?_); rintro e w2 ⟨e2, hb2⟩; rw [h5] at e2; subst e2; have hc2 := bcell hb2; have hz2 : w.heap.size < w2.heap.size := (by have := hb2.size; omega)) | (go_at_call 83; (with_reducible refine (total_ref _ _ _ ((HW.out.below hb1).below hb2)).mono ?_); rintro e w3 ⟨t, rfl, ht1, ht2, rfl⟩; have htt := ht1 HT.out; clear ht1 ht2))
            all_goals
              go_ret
              exact ⟨ret_int HF.out.symm, bon (bon hal hb1) hb2⟩
          · by_cases h10 : 1048576 < r.bound
            · have HF : Hid (ruleE r n = 174) := Lib.hid (by rw [HE4.out, if_pos (.inr h10)])
              go_enter Tryz.func81, Tryz.ntmps81
              go_wp2_with (first | (go_at_call 55; (with_reducible refine (atoms_ref _ _ n _ HH.out).mono ?_); rintro e w1 ⟨e1, hb1⟩; rw [h2] at e1; subst e1; have hc1 := bcell hb1; have hz1 : w.heap.size < w1.heap.size := (by have := hb1.size; simp at this; omega); rcases hch with hch | hch) | (go_at_call 82; (with_reducible refine (lits_ref _ _ n _ (HB.out.below hb1) hn2).mono ?_); rintro e w2 ⟨e2, hb2⟩; rw [h5] at e2; subst e2; have hc2 := bcell hb2; have hz2 : w.heap.size < w2.heap.size := (by have := hb2.size; omega)) | (go_at_call 83; (with_reducible refine (total_ref _ _ _ ((HW.out.below hb1).below hb2)).mono ?_); rintro e w3 ⟨t, rfl, ht1, ht2, rfl⟩; have htt := ht1 HT.out; clear ht1 ht2))
              all_goals
                go_ret
                exact ⟨ret_int HF.out.symm, bon (bon hal hb1) hb2⟩
            · have HF : Hid (ruleE r n = 0) := Lib.hid (by rw [HE4.out, if_neg (by omega)])
              go_enter Tryz.func81, Tryz.ntmps81
              go_wp2_with (first | (go_at_call 55; (with_reducible refine (atoms_ref _ _ n _ HH.out).mono ?_); rintro e w1 ⟨e1, hb1⟩; rw [h2] at e1; subst e1; have hc1 := bcell hb1; have hz1 : w.heap.size < w1.heap.size := (by have := hb1.size; simp at this; omega); rcases hch with hch | hch) | (go_at_call 82; (with_reducible refine (lits_ref _ _ n _ (HB.out.below hb1) hn2).mono ?_); rintro e w2 ⟨e2, hb2⟩; rw [h5] at e2; subst e2; have hc2 := bcell hb2; have hz2 : w.heap.size < w2.heap.size := (by have := hb2.size; omega)) | (go_at_call 83; (with_reducible refine (total_ref _ _ _ ((HW.out.below hb1).below hb2)).mono ?_); rintro e w3 ⟨t, rfl, ht1, ht2, rfl⟩; have htt := ht1 HT.out; clear ht1 ht2))
              all_goals
                go_ret
                exact ⟨ret_int HF.out.symm, bon (bon hal hb1) hb2⟩
      · have h6' : ((r.w.length : Int) != (r.body.length : Int)) = true := by simp; omega
        have HF : Hid (ruleE r n = 174) := Lib.hid (by
          have h8 : weightsB r.w r.body.length = false := by
            unfold weightsB
            rw [show decide ((r.w.length : Int) = (r.body.length : Int)) = false from decide_eq_false (by omega)]; simp
          rw [HE3.out, if_pos (.inr ⟨hs, .inl h8⟩)])
        clear HE3 h6
        go_enter Tryz.func81, Tryz.ntmps81
        go_wp2_with (first | (go_at_call 55; (with_reducible refine (atoms_ref _ _ n _ HH.out).mono ?_); rintro e w1 ⟨e1, hb1⟩; rw [h2] at e1; subst e1; have hc1 := bcell hb1; have hz1 : w.heap.size < w1.heap.size := (by have := hb1.size; simp at this; omega); rcases hch with hch | hch) | (go_at_call 82; (with_reducible refine (lits_ref _ _ n _ (HB.out.below hb1) hn2).mono ?_); rintro e w2 ⟨e2, hb2⟩; rw [h5] at e2; subst e2; have hc2 := bcell hb2; have hz2 : w.heap.size < w2.heap.size := (by have := hb2.size; omega)))
        all_goals
          go_ret
          exact ⟨ret_int HF.out.symm, bon (bon hal hb1) hb2⟩
theorem toList_inj17 {s t : ByteArray} (h : s.toList = t.toList) : s = t := by
  rw [Lib.toList_data, Lib.toList_data] at h
  cases s; cases t
  simpa using h
def NmRel (l : List ByteArray) (w : World) (i : Value) (wx : World) : Prop := ∃ k : Nat, k ≤ l.length ∧ i = .int .i64 k ∧ (∀ j, j < k → nameAt l j = true) ∧ Below w.heap.size w wx
def NmRel2 (l : List ByteArray) (s : ByteArray) (m : Nat) (w : World) (i : Value) (wx : World) : Prop := ∃ k : Nat, k ≤ m ∧ i = .int .i64 k ∧ (emptyS s = true ∨ ∀ j, j < k → ixS l j ≠ s) ∧ Below w.heap.size w wx
set_option maxHeartbeats 2000000 in
theorem names_ref (v : Value) (l : List ByteArray) (w : World) (h : Strs w v l) :
    Calls Tryz.prog 80 #[v] w fun e w' => e = .returned (.bool (namesB l)) ∧ Below w.heap.size w w' := by
  obtain ⟨a, c, rfl, -, hl, -, hsz, hcell⟩ := h.form
  have HSZ := Lib.hid hsz
  have HC := Lib.hid hcell
  clear h hsz hcell
  have HE : Hid (namesB l = allR l.length (nameAt l)) := Lib.hid rfl
  go_enter Tryz.func80, Tryz.ntmps80
  go_wp2
  go_loopw [3] (fun i wx => NmRel l w i wx) (fun i _ => l.length - (intOf i).toNat)
  case atStart => exact ⟨0, by omega, rfl, fun j hj => absurd hj (Nat.not_lt_zero _), Below.refl _ _⟩
  case round =>
    obtain ⟨k, hk, rfl, hall, hb⟩ := hrel
    have HA := Lib.hid hall
    have HB := Lib.hid hb
    clear hall
    by_cases hlt : k < l.length
    · obtain ⟨b, off, hab, hbl, hc⟩ := HC.out (by omega)
      subst hab
      obtain ⟨s, hs⟩ : ∃ s, s = ixS l k := ⟨_, rfl⟩
      have HSE := Lib.hid hs
      have hcl : w.cell? ⟨b, off + k, none⟩ = some (.string s) := by rw [hs]; exact hc k hlt
      have hk1 := (bcell hb _ _ hbl).trans hcl
      have hsz1 : s.size ≤ 140737488351232 := by rw [hs]; exact HSZ.out k
      have HN : Hid (nameAt l k = (decide (s.size ≤ 200) && !nlB s && (emptyS s || allR k (fun j => decide (ixS l j ≠ s))))) := Lib.hid (by rw [hs]; rfl)
      have HBAD : Hid (nameAt l k = false → namesB l = false) := Lib.hid (fun h => by rw [HE.out]; exact allR_false k hlt h)
      have HCC := Lib.hid hc
      clear hc hs
      by_cases g1 : 200 < s.size
      · have HF := Lib.hid (HBAD.out (by rw [HN.out, decide_eq_false (by omega)]; rfl))
        go_wp2
        go_ret
        exact ⟨ret_bool HF.out.symm, hb⟩
      · cases g2 : nlB s with
        | true =>
          have HF := Lib.hid (HBAD.out (by rw [HN.out, g2]; simp))
          go_wp2_with (go_at_call 22; (with_reducible refine (containsNl_any _ _).mono ?_); rintro e w2 ⟨e2, rfl⟩; rw [g2] at e2; subst e2)
          go_ret
          exact ⟨ret_bool HF.out.symm, hb⟩
        | false =>
          go_upto_region 7 with (go_at_call 22; (with_reducible refine (containsNl_any _ _).mono ?_); rintro e w2 ⟨e2, rfl⟩; rw [g2] at e2; subst e2)
          obtain ⟨wo, rfl⟩ : ∃ wo : World, wo = wr := ⟨_, rfl⟩
          clear hk1 hb
          go_loopw [4] (fun i wx => NmRel2 l s k w i wx) (fun i _ => k - (intOf i).toNat)
          case atStart => exact ⟨0, by omega, rfl, .inr (fun j hj => absurd hj (Nat.not_lt_zero _)), HB.out⟩
          case round =>
            obtain ⟨m, hm, rfl, hall2, hb2⟩ := hrel
            have HA2 := Lib.hid hall2
            have hlr : b < wr.heap.size := Nat.lt_of_lt_of_le hbl hb2.size
            have k1 : ∀ e : Ext wr, e.world.cell? ⟨b, off + k, none⟩ = some (.string s) := fun e => (bcell e.below _ _ hlr).trans ((bcell hb2 _ _ hbl).trans hcl)
            clear hall2
            by_cases hltm : m < k
            · obtain ⟨t, ht⟩ : ∃ t, t = ixS l m := ⟨_, rfl⟩
              have k2 : ∀ e : Ext wr, e.world.cell? ⟨b, off + m, none⟩ = some (.string t) := fun e => by rw [ht]; exact (bcell e.below _ _ hlr).trans ((bcell hb2 _ _ hbl).trans (HCC.out m (by omega)))
              have HT := Lib.hid ht
              clear ht
              have hlm : m < l.length := by omega
              cases g3 : emptyS s with
              | true =>
                have g4 : s.toList.isEmpty = true := g3
                have g5 : s.toList = [] := by simpa using g4
                have g6 : (s.toList.isEmpty == false) = false := by rw [g4]; rfl
                go_wp2
                refine wp_region_ext (by kernel_rfl) (by kernel_rfl) ?_
                repeat (go_big_quiet_step (fail))
                refine wpQuiet_nil ?_
                intro _ hw'
                obtain ⟨⟨w9, hb9⟩, rfl⟩ := hw'
                try dsimp only
                go_wp2
                first
                  | (go_roundw
                     case rel => (exact ⟨m + 1, by omega, by go_num, .inl g3, bon hb2 hb9⟩)
                     case measure => (simp [intOf]; omega))
                  | (refine ⟨?_, ?_⟩
                     · (exact ⟨m + 1, by omega, by go_num, .inl g3, bon hb2 hb9⟩)
                     · (simp [intOf]; omega))
              | false =>
                have g4 : s.toList.isEmpty = false := g3
                have g5 : ¬ s.toList = [] := by simpa using g4
                by_cases g6 : s = t
                · have HF := Lib.hid (HBAD.out (by
                    rw [HN.out, g3, allR_false m hltm (decide_eq_false (fun h => h (HT.out.symm.trans g6.symm)))]; simp))
                  subst g6
                  go_wp2
                  refine wp_region_ext (by kernel_rfl) (by kernel_rfl) ?_
                  repeat (go_big_quiet_step (fail))
                  refine wpQuiet_nil ?_
                  intro _ hw'
                  obtain ⟨⟨w9, hb9⟩, rfl⟩ := hw'
                  try dsimp only
                  go_wp2
                  go_ret
                  exact ⟨ret_bool HF.out.symm, bon hb2 hb9⟩
                · have HN2 : Hid (∀ j, j < m + 1 → ixS l j ≠ s) := Lib.hid (lt_succ_all (HA2.out.resolve_left (by rw [g3]; simp)) (fun h => g6 (h.symm.trans HT.out.symm)))
                  have g7 : (s.toList == t.toList) = false := beq_eq_false_iff_ne.2 (fun e => g6 (toList_inj17 e))
                  clear g6
                  go_wp2
                  refine wp_region_ext (by kernel_rfl) (by kernel_rfl) ?_
                  repeat (go_big_quiet_step (fail))
                  refine wpQuiet_nil ?_
                  intro _ hw'
                  obtain ⟨⟨w9, hb9⟩, rfl⟩ := hw'
                  try dsimp only
                  go_wp2
                  first
                    | (go_roundw
                       case rel => (exact ⟨m + 1, by omega, by go_num, .inr HN2.out, bon hb2 hb9⟩)
                       case measure => (simp [intOf]; omega))
                    | (refine ⟨?_, ?_⟩
                       · (exact ⟨m + 1, by omega, by go_num, .inr HN2.out, bon hb2 hb9⟩)
                       · (simp [intOf]; omega))
            · obtain rfl : m = k := by omega
              have HNN : Hid (∀ j, j < m + 1 → nameAt l j = true) := Lib.hid (lt_succ_all HA.out (by
                rw [HN.out, g2, decide_eq_true (show s.size ≤ 200 by omega)]
                rcases HA2.out with h | h
                · rw [h]; rfl
                · rw [allR_true (fun j hj => decide_eq_true (h j hj))]; simp))
              go_wp2
              go_roundw
              case rel => exact ⟨m + 1, by omega, by go_num, HNN.out, hb2⟩
              case measure => simp [intOf]; omega
    · have HF : Hid (namesB l = true) := Lib.hid (by rw [HE.out]; exact allR_true (fun j hj => HA.out j (by omega)))
      go_wp2
      go_ret
      exact ⟨ret_bool HF.out.symm, hb⟩
end Go.Proofs.YtgakoainjgjimaaGreatDoor
