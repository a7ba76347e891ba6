/- My texts Plain3, Ref33, Rf26a, Rf26b, Ref17a, merged. -/
import Derived.Test.YtfhpfbakoiekpaaGreatDoorM16
import Derived.Test.YtfhpfbakoiekpaaGreatDoorM13
import Derived.Test.YtfhpfbakoiekpaaGreatDoorM04
import Derived.Deep.DeepCutAuto
import Derived.Test.YtfhpfbakoiekpaaGreatDoorM06
import Derived.Test.YtfhpfbakoiekpaaGreatDoorM00

/- The plain law of chapter 33: availability under a set; the founded set is the least closed one; adding sources round by round. -/
namespace Go.Proofs.YtfhpfbakoiekpaaGreatDoor
open Go.RowKit

section mono
variable {p : GP} {a : List Int} {F K F' K' : Int → Int}

theorem avSum_mono {r : GR} {b b' : Int} (hw : ∀ k, k < r.w.length → 1 ≤ ix r.w k) (hl : r.w.length = r.body.length) (h : ∀ l ∈ r.body, holdsB a F K b l = true → holdsB a F' K' b' l = true) : ∀ k, k ≤ r.body.length → avSum r a F K b k ≤ avSum r a F' K' b' k
  | 0, _ => Int.le_refl _
  | k + 1, hk => by
    have h1 := avSum_mono hw hl h k (by omega)
    have h2 := hw k (by omega)
    have h3 := h (ix r.body k) (ix_mem (by omega))
    unfold avSum
    cases h4 : holdsB a F K b (ix r.body k) with
    | true => rw [h3 h4]; simp only [if_true]; omega
    | false =>
      simp only [Bool.false_eq_true, if_false]
      split <;> omega

theorem avB_mono {i : Int} {b b' : Int} (hv : validE p = 0) (hi : 0 ≤ i ∧ i < p.rules.length) (h : ∀ l ∈ (ixR p.rules i.toNat).body, holdsB a F K b l = true → holdsB a F' K' b' l = true) (hav : avB p a F K i b = true) : avB p a F' K' i b' = true := by
  unfold avB availB at *
  simp only [Bool.and_eq_true] at *
  refine ⟨hav.1, ?_⟩
  have h2 := hav.2
  have hil : i.toNat < p.rules.length := by omega
  cases hs : (ixR p.rules i.toNat).sum with
  | true =>
    rw [hs] at h2
    simp only [if_true, decide_eq_true_eq] at h2 ⊢
    obtain ⟨h3, h4, -⟩ := weights_sum ((validP hv).sum i.toNat hil hs)
    have := avSum_mono h4 (by omega) h _ (Nat.le_refl _)
    omega
  | false =>
    rw [hs] at h2
    simp only [Bool.false_eq_true, if_false] at h2 ⊢
    exact allR_true fun k hk => h _ (ix_mem hk) (allR_get h2 k hk)

end mono

/-- Availability under a set, the set as a function that is positive at its elements. -/
def avS (p : GP) (a : List Int) (G : Int → Int) (i : Int) : Bool := avB p a G (fun _ => 0) i 1

theorem holds_set {a : List Int} {G : Int → Int} {l : Int} : holdsB a G (fun _ => 0) 1 l = (!offB a l && (decide (l < 0) || decide (0 < G l))) := by
  unfold holdsB
  have : decide ((0 : Int) < 1) = true := decide_eq_true (by omega)
  rw [this, Bool.and_true]

/-- A set (positive at its elements) that holds whatever has an available rule. -/
def Closed (p : GP) (a : List Int) (G : Int → Int) : Prop :=
  ∀ x i, 1 ≤ x → x ≤ p.n → offB a x = false → InHead p i x → avS p a G i = true → 0 < G x

structure IsFnd (p : GP) (a : List Int) (G : Int → Int) : Prop where
  dom : ∀ x, 0 < G x → 1 ≤ x ∧ x ≤ p.n
  closed : Closed p a G
  least : ∀ T, Closed p a T → ∀ x, 0 < G x → 0 < T x

theorem IsFnd.unique {p : GP} {a : List Int} {G G' : Int → Int} (h : IsFnd p a G) (h' : IsFnd p a G') (x : Int) : 0 < G x ↔ 0 < G' x :=
  ⟨h.least G' h'.closed x, h'.least G h.closed x⟩

/-! ### Adding sources, round by round -/
/-- A round over 1 .. n, under way at x; G0 what stood at its start. -/
structure Round (p : GP) (F K G0 G : Int → Int) (x : Int) : Prop where
  one : ∀ y, G y = 0 ∨ (G y = 1 ∧ 0 < F y)
  up : ∀ y, 0 < G0 y → 0 < G y
  done : ∀ y, 1 ≤ y → y < x → 0 < F y → (∀ l, 0 < F l → K l < K y → 0 < G0 l) → 0 < G y

section round
variable {p : GP} {a : List Int} {F K G0 G : Int → Int} {clock x : Int}

theorem Round.start (h : ∀ y, G y = 0 ∨ (G y = 1 ∧ 0 < F y)) : Round p F K G G 1 := ⟨h, fun _ h => h, fun y h1 h2 => by omega⟩

theorem Round.add (h : Round p F K G0 G x) (hF : 0 < F x) : Round p F K G0 (setI G x 1) (x + 1) := by
  refine ⟨fun y => ?_, fun y hy => ?_, fun y h1 h2 h3 h4 => ?_⟩ <;> by_cases e : y = x
  · subst e; rw [setI_eq]; exact .inr ⟨rfl, hF⟩
  · rw [setI_ne G _ e]; exact h.one y
  · subst e; rw [setI_eq]; omega
  · rw [setI_ne G _ e]; exact h.up y hy
  · subst e; rw [setI_eq]; omega
  · rw [setI_ne G _ e]; exact h.done y h1 (by omega) h3 h4

theorem Round.skip (hv : validE p = 0) (hl : Lost p a F K clock) (h : Round p F K G0 G x) (hs : ¬ 0 < F x ∨ 0 < G x ∨ avS p a G (F x - 1) = false) : Round p F K G0 G (x + 1) := by
  refine ⟨h.one, h.up, fun y h1 h2 h3 h4 => ?_⟩
  by_cases e : y = x
  · subst e
    rcases hs with h5 | h5 | h5
    · exact absurd h3 h5
    · exact h5
    · have hin : InHead p (F y - 1) y := by
        rcases hl.inv y with h6 | h6
        · omega
        · exact h6.2.2.2.1
      have : avS p a G (F y - 1) = true := avB_mono hv ⟨hin.1, hin.2.1⟩ (fun l hl hh => by
        rw [holds_set]
        unfold holdsB at hh
        simp only [Bool.and_eq_true, Bool.or_eq_true, decide_eq_true_eq] at hh ⊢
        exact ⟨hh.1, hh.2.imp id (fun h6 => h.up l (h4 l h6.1 h6.2))⟩) (hl.ok y h3)
      rw [h5] at this; cases this
  · exact h.done y h1 (by omega) h3 h4

end round

end Go.Proofs.YtfhpfbakoiekpaaGreatDoor

/- The references: ostlerref24.Value, ostlerref26.In, ostlerref33. -/
namespace Go.Proofs.YtfhpfbakoiekpaaGreatDoor
open Go.RowKit

set_option maxHeartbeats 1000000 in
theorem in_any (v : Value) (l : List Int) (w : World) (h : Ints w v l) (x : Int) :
    Calls Tryz.prog 31 #[v, .int .i64 x] w fun e w' => e = .returned (.bool (decide (x ∈ l))) ∧ w = w' := by
  obtain ⟨a, c, rfl, -, hl, -, hcell⟩ := h.form
  have HF := Lib.hid h.2
  clear h
  go_enter Tryz.func31, Tryz.ntmps31
  go_wp2
  go_loop [5] (fun i => ∃ k : Nat, k ≤ l.length ∧ i = .int .i64 k ∧ Hid (∀ j, j < k → ix l j ≠ x)) (fun i => l.length - (intOf i).toNat)
  case atStart => exact ⟨0, by omega, rfl, Lib.hid fun j hj => absurd hj (Nat.not_lt_zero _)⟩
  case round =>
    obtain ⟨k, hk, rfl, HA⟩ := hrel
    by_cases hlt : k < l.length
    · obtain ⟨b, off, rfl, hbl, hc⟩ := hcell (by omega)
      have hk1 := hc k hlt
      clear hc hcell
      by_cases he : ix l k = x
      · have HM : Hid (decide (x ∈ l) = true) := Lib.hid (decide_eq_true (he ▸ ix_mem hlt))
        have he' : (ix l k == x) = true := by simp [he]
        clear he
        go_wp2
        go_ret
        exact ⟨ret_bool HM.out.symm, rfl⟩
      · have HN := Lib.hid (lt_succ_all HA.out he)
        have he' : (ix l k == x) = false := by simp [he]
        clear he
        go_wp2
        first
          | (go_round
             case rel => (exact ⟨k + 1, by omega, by go_num, HN⟩)
             case measure => (simp [intOf]; omega))
          | (refine ⟨?_, ?_⟩
             · (exact ⟨k + 1, by omega, by go_num, HN⟩)
             · (simp [intOf]; omega))
    · have HM : Hid (decide (x ∈ l) = false) := Lib.hid (decide_eq_false (fun hm => by
        obtain ⟨j, hj, e⟩ := ix_of_mem hm
        exact HA.out j (by omega) e.symm))
      go_wp2
      go_ret
      exact ⟨ret_bool HM.out.symm, rfl⟩

end Go.Proofs.YtfhpfbakoiekpaaGreatDoor

/- ostlerref26: True, Body, bit, Set. -/
namespace Go.Proofs.YtfhpfbakoiekpaaGreatDoor
open Go.RowKit

set_option maxHeartbeats 1000000 in
theorem rtrue_any (vm : Value) (m : List Int) (x : Int) (w : World) (h : Ints w vm m) (h0 : x ≠ 0) (hx : -9223372036854775808 < x ∧ x ≤ 9223372036854775807) :
    Calls Tryz.prog 112 #[vm, .int .i64 x] w fun e w' => e = .returned (.bool (litT m x)) ∧ w = w' := by
  obtain ⟨a1, c1, rfl, -⟩ := h.form
  by_cases hp : x < 0
  · have HF : Hid (litT m x = !decide (-x ∈ m)) := Lib.hid (by unfold litT; rw [if_neg (by omega)])
    have H := Lib.hid (in_any _ _ _ h (-x))
    clear h h0
    go_enter Tryz.func112, Tryz.ntmps112
    go_wp2_with (go_at_call 31; (with_reducible refine (H.out).mono ?_); rintro e w1 ⟨rfl, rfl⟩)
    go_ret
    exact ⟨ret_bool HF.out.symm, rfl⟩
  · have HF : Hid (litT m x = decide (x ∈ m)) := Lib.hid (by unfold litT; rw [if_pos (by omega)])
    have H := Lib.hid (in_any _ _ _ h x)
    clear h h0
    go_enter Tryz.func112, Tryz.ntmps112
    go_wp2_with (go_at_call 31; (with_reducible refine (H.out).mono ?_); rintro e w1 ⟨rfl, rfl⟩)
    go_ret
    exact ⟨ret_bool HF.out.symm, rfl⟩

set_option maxHeartbeats 1000000 in
theorem rbit_any (b : Bool) (w : World) : Calls Tryz.prog 66 #[.bool b] w fun e w' => e = .returned (.int .i8 (if b then 1 else -1)) ∧ w = w' := by
  cases b with
  | true =>
    go_enter Tryz.func66, Tryz.ntmps66
    go_wp2
    go_ret
    exact ⟨rfl, rfl⟩
  | false =>
    go_enter Tryz.func66, Tryz.ntmps66
    go_wp2
    go_ret
    exact ⟨rfl, rfl⟩

/-! ### Set -/
def RsRel (n : Int) (m : List Int) (c : List Value) (w : World) (i : Value) (wx : World) : Prop :=
  ∃ k : Nat, k ≤ m.length ∧ i = .int .i64 k ∧ (∀ j, j < k → setTo n m j = true) ∧ Blk wx w.heap.size c 27 ∧ Below w.heap.size w wx

set_option maxHeartbeats 4000000 in
set_option maxRecDepth 100000 in
theorem rset_any (v vm : Value) (p : GP) (m : List Int) (w : World) (h : ProgIs w v p) (hm : Ints w vm m) :
    Calls Tryz.prog 65 #[v, vm] w fun e w' => e = .returned (.bool (setQ p.n m)) ∧ Below w.heap.size w w' := by
  obtain ⟨vn, vsh, vr, vmn, rfl, hn, -⟩ := h
  obtain ⟨a1, c1, rfl, -, hl1, -, hcell⟩ := hm.form
  have hal := bal (Below.refl w.heap.size w) (.cells #[.int .i64 p.n, vn, vsh, vr, vmn] 27)
  have HAL := Lib.hid hal
  have HBK := Lib.hid (Blk.new w [.int .i64 p.n, vn, vsh, vr, vmn] 27)
  unfold InI at hn
  clear hal hm
  go_enter Tryz.func65, Tryz.ntmps65
  go_upto_region 2 with fail
  generalize w.alloc (.cells #[.int .i64 p.n, vn, vsh, vr, vmn] 27) = W0 at *
  go_loopw [5] (fun i wx => RsRel p.n m [.int .i64 p.n, vn, vsh, vr, vmn] w i wx) (fun i _ => m.length - (intOf i).toNat)
  case atStart => exact ⟨0, Nat.zero_le _, rfl, fun j hj => absurd hj (Nat.not_lt_zero _), HBK.out, HAL.out⟩
  case round =>
    obtain ⟨k, hk, rfl, hall, hbx, hb⟩ := hrel
    have HA := Lib.hid hall
    have HX := Lib.hid hbx
    have HB := Lib.hid hb
    have HF : Hid (∀ k, k < m.length → setTo p.n m k = false → setQ p.n m = false) := Lib.hid (fun k hk h => by unfold setQ; rw [allR_false k hk h])
    by_cases hlt : k < m.length
    · obtain ⟨b, off, rfl, hbl, hc⟩ := hcell (by omega)
      have hl1' : b < wr.heap.size := Nat.lt_of_lt_of_le hbl hb.size
      have hlx := hbx.lt
      have HCC : Hid (∀ j, j < m.length → ∀ e : Ext wr, e.world.cell? ⟨b, off + j, none⟩ = some (.int .i64 (ix m j))) := Lib.hid (fun j hj e => (bcell e.below _ _ hl1').trans ((bcell hb _ _ hbl).trans (hc j hj)))
      have q1 := HCC.out k hlt
      have q2 : ∀ e : Ext wr, e.world.cell? ⟨w.heap.size, 0, none⟩ = some (.int .i64 p.n) := fun e => (bcell e.below _ _ hlx).trans (hbx.cell 0)
      have HK := Lib.hid (show setTo p.n m k = (decide (1 ≤ ix m k ∧ ix m k ≤ p.n) && (k == 0 || decide (ix m (k - 1) < ix m k))) from rfl)
      have HG : Hid (setTo p.n m k = true → ∀ j, j < k + 1 → setTo p.n m j = true) := Lib.hid (fun h => lt_succ_all HA.out h)
      have HFK : Hid (setTo p.n m k = false → setQ p.n m = false) := Lib.hid (HF.out k hlt)
      clear hc hcell hall hbx hb HF
      by_cases c1 : ix m k < 1
      · have HN := Lib.hid (HFK.out (by rw [HK.out, decide_eq_false (by omega)]; rfl))
        have d1 : decide (ix m k < 1) = true := decide_eq_true c1
        go_wp2
        refine wp_region_ext (by kernel_rfl) (by kernel_rfl) ?_
        repeat (go_big_quiet_step (fail))
        refine wpQuiet_nil ?_
        intro w9 hw'
        obtain ⟨e9, he9⟩ := hw'
        have hb9 := e9.below
        rw [← he9] at hb9
        clear he9 e9
        try dsimp only
        go_wp2
        go_ret
        exact ⟨ret_bool HN.out.symm, bon HB.out hb9⟩
      · have d1 : decide (ix m k < 1) = false := decide_eq_false c1
        by_cases c2 : p.n < ix m k
        · have HN := Lib.hid (HFK.out (by rw [HK.out, decide_eq_false (by omega)]; rfl))
          have d2 : decide (p.n < ix m k) = true := decide_eq_true c2
          go_wp2
          refine wp_region_ext (by kernel_rfl) (by kernel_rfl) ?_
          repeat (go_big_quiet_step (fail))
          refine wpQuiet_nil ?_
          intro w9 hw'
          obtain ⟨e9, he9⟩ := hw'
          have hb9 := e9.below
          rw [← he9] at hb9
          clear he9 e9
          try dsimp only
          go_wp2
          go_ret
          exact ⟨ret_bool HN.out.symm, bon HB.out hb9⟩
        · have d2 : decide (p.n < ix m k) = false := decide_eq_false c2
          by_cases c3 : k = 0
          · subst c3
            have q10 : ∀ e : Ext wr, e.world.cell? ⟨b, off, none⟩ = some (.int .i64 (ix m 0)) := q1
            have HN := Lib.hid (HG.out (by rw [HK.out, decide_eq_true (by omega)]; rfl))
            go_wp2
            refine wp_region_ext (by kernel_rfl) (by kernel_rfl) ?_
            repeat (go_big_quiet_step (fail))
            refine wpQuiet_nil ?_
            intro w9 hw'
            obtain ⟨e9, he9⟩ := hw'
            have hb9 := e9.below
            rw [← he9] at hb9
            clear he9 e9
            try dsimp only
            go_wp2
            first
              | (go_roundw
                 case rel => (exact ⟨1, by omega, by go_num, HN.out, HX.out.below hb9, bon HB.out hb9⟩)
                 case measure => (simp [intOf]; omega))
              | (refine ⟨?_, ?_⟩
                 · (exact ⟨1, by omega, by go_num, HN.out, HX.out.below hb9, bon HB.out hb9⟩)
                 · (simp [intOf]; omega))
          · have c3' : 0 < k := by omega
            have d3 : decide (0 < k) = true := decide_eq_true c3'
            have q0 := HCC.out (k - 1) (by omega)
            by_cases c4 : ix m k ≤ ix m (k - 1)
            · have HN := Lib.hid (HFK.out (by rw [HK.out, show decide (ix m (k - 1) < ix m k) = false from decide_eq_false (by omega), show (k == 0) = false from beq_eq_false_iff_ne.2 c3]; simp))
              have d4 : decide (ix m k ≤ ix m (k - 1)) = true := decide_eq_true c4
              go_wp2
              refine wp_region_ext (by kernel_rfl) (by kernel_rfl) ?_
              repeat (go_big_quiet_step (fail))
              refine wpQuiet_nil ?_
              intro w9 hw'
              obtain ⟨e9, he9⟩ := hw'
              have hb9 := e9.below
              rw [← he9] at hb9
              clear he9 e9
              try dsimp only
              go_wp2
              go_ret
              exact ⟨ret_bool HN.out.symm, bon HB.out hb9⟩
            · have HN := Lib.hid (HG.out (by rw [HK.out, show decide (ix m (k - 1) < ix m k) = true from decide_eq_true (by omega), show decide (1 ≤ ix m k ∧ ix m k ≤ p.n) = true from decide_eq_true (by omega)]; simp))
              have d4 : decide (ix m k ≤ ix m (k - 1)) = false := decide_eq_false c4
              go_wp2
              refine wp_region_ext (by kernel_rfl) (by kernel_rfl) ?_
              repeat (go_big_quiet_step (fail))
              refine wpQuiet_nil ?_
              intro w9 hw'
              obtain ⟨e9, he9⟩ := hw'
              have hb9 := e9.below
              rw [← he9] at hb9
              clear he9 e9
              try dsimp only
              go_wp2
              first
                | (go_roundw
                   case rel => (exact ⟨k + 1, by omega, by go_num, HN.out, HX.out.below hb9, bon HB.out hb9⟩)
                   case measure => (simp [intOf]; omega))
                | (refine ⟨?_, ?_⟩
                   · (exact ⟨k + 1, by omega, by go_num, HN.out, HX.out.below hb9, bon HB.out hb9⟩)
                   · (simp [intOf]; omega))
    · have HN : Hid (setQ p.n m = true) := Lib.hid (by unfold setQ; rw [allR_true (fun j hj => HA.out j (by omega))])
      go_wp2
      go_ret
      exact ⟨ret_bool HN.out.symm, HB.out⟩

/-! ### Body -/
set_option maxHeartbeats 4000000 in
set_option maxRecDepth 100000 in
theorem rfbody_any (v vm : Value) (r : GR) (m : List Int) (w : World) (hr : RuleIs w v r) (hm : Ints w vm m) (hok : BodyOk r) (hnz : ∀ j, j < r.body.length → ix r.body j ≠ 0) :
    Calls Tryz.prog 67 #[v, vm] w fun e w' => e = .returned (.bool (bodyT r m)) ∧ Below w.heap.size w w' := by
  obtain ⟨vh, vb, vw, rfl, hsl⟩ := hr
  have hal := bal (Below.refl w.heap.size w) (.cells #[.bool r.choice, vh, .bool r.sum, .int .i64 r.bound, vb, vw] 54)
  have HBX := Lib.hid (Blk.new w [.bool r.choice, vh, .bool r.sum, .int .i64 r.bound, vb, vw] 54)
  have HM := Lib.hid (hm.below hal)
  obtain ⟨a1, c1, rfl, -⟩ := hm.form
  obtain ⟨a2, c2, rfl, -, hl2, -, hcb⟩ := hsl.body.form
  obtain ⟨a3, c3, rfl, -, hl3, -, hcw⟩ := hsl.wts.form
  have hfit := hsl.body.2
  have hbd := hsl.bound
  unfold InI at hbd
  have HLT : Hid (∀ j, j < r.body.length → -9223372036854775808 < ix r.body j ∧ ix r.body j ≤ 9223372036854775807) := Lib.hid (fun j hj => ⟨hok.lit j hj, (hfit j).2⟩)
  have HNZA := Lib.hid hnz
  have hlen := hok.len
  have HAL := Lib.hid hal
  have kq := HBX.out.cell
  have HCB : Hid (∀ j, j < r.body.length → ∃ b off, a2 = some ⟨b, off, none⟩ ∧ (w.alloc (.cells #[.bool r.choice, vh, .bool r.sum, .int .i64 r.bound, .slice a2 r.body.length c2, .slice a3 r.w.length c3] 54)).cell? ⟨b, off + j, none⟩ = some (.int .i64 (ix r.body j))) := Lib.hid (fun j hj => by
    obtain ⟨b, off, e, hl, hc⟩ := hcb (by omega)
    exact ⟨b, off, e, (bcell hal _ _ hl).trans (hc j hj)⟩)
  have HCW : Hid (∀ j, j < r.w.length → ∃ b off, a3 = some ⟨b, off, none⟩ ∧ (w.alloc (.cells #[.bool r.choice, vh, .bool r.sum, .int .i64 r.bound, .slice a2 r.body.length c2, .slice a3 r.w.length c3] 54)).cell? ⟨b, off + j, none⟩ = some (.int .i64 (ix r.w j))) := Lib.hid (fun j hj => by
    obtain ⟨b, off, e, hl, hc⟩ := hcw (by omega)
    exact ⟨b, off, e, (bcell hal _ _ hl).trans (hc j hj)⟩)
  cases hs : r.sum with
  | false =>
    rw [hs] at HAL HBX HM HCB HCW kq
    have HF : Hid (bodyT r m = allR r.body.length (fun j => litT m (ix r.body j))) := Lib.hid (by unfold bodyT; rw [hs]; rfl)
    clear hsl hs hm hcb hcw hal hok hnz hfit
    go_enter Tryz.func67, Tryz.ntmps67
    go_upto_region 3 with fail
    generalize w.alloc (.cells #[.bool r.choice, vh, .bool false, .int .i64 r.bound, .slice a2 r.body.length c2, .slice a3 r.w.length c3] 54) = W0 at *
    go_loop [6] (fun i => ∃ k : Nat, k ≤ r.body.length ∧ i = .int .i64 k ∧ Hid (∀ j, j < k → litT m (ix r.body j) = true)) (fun i => r.body.length - (intOf i).toNat)
    case atStart => exact ⟨0, Nat.zero_le _, rfl, Lib.hid (fun j hj => absurd hj (Nat.not_lt_zero _))⟩
    case round =>
      obtain ⟨k, hk, rfl, HA⟩ := hrel
      by_cases hlt : k < r.body.length
      · obtain ⟨b2, o2, rfl, hc1⟩ := HCB.out k hlt
        have HLK := Lib.hid (HLT.out k hlt)
        have HNZ := Lib.hid (HNZA.out k hlt)
        have HIM := HM
        cases hh : litT m (ix r.body k) with
        | true =>
          have HHH := Lib.hid hh
          have HN := Lib.hid (lt_succ_all HA.out hh)
          clear hh
          go_wp2_with (go_at_call 112; (with_reducible refine (rtrue_any _ m _ _ HIM.out HNZ.out HLK.out).mono ?_); rintro e w1 ⟨e1, rfl⟩; rw [HHH.out] at e1; subst e1)
          first
            | (go_round
               case rel => (exact ⟨k + 1, by omega, by go_num, HN⟩)
               case measure => (simp [intOf]; omega))
            | (refine ⟨?_, ?_⟩
               · (exact ⟨k + 1, by omega, by go_num, HN⟩)
               · (simp [intOf]; omega))
        | false =>
          have HHH := Lib.hid hh
          have HN : Hid (bodyT r m = false) := Lib.hid (by rw [HF.out, allR_false k hlt hh])
          clear hh
          go_wp2_with (go_at_call 112; (with_reducible refine (rtrue_any _ m _ _ HIM.out HNZ.out HLK.out).mono ?_); rintro e w1 ⟨e1, rfl⟩; rw [HHH.out] at e1; subst e1)
          go_ret
          exact ⟨ret_bool HN.out.symm, HAL.out⟩
      · have HN : Hid (bodyT r m = true) := Lib.hid (by rw [HF.out, allR_true (fun j hj => HA.out j (by omega))])
        go_wp2
        go_ret
        exact ⟨ret_bool HN.out.symm, HAL.out⟩
  | true =>
    rw [hs] at HAL HBX HM HCB HCW kq
    have HF : Hid (bodyT r m = decide (r.bound ≤ wsum m r r.body.length)) := Lib.hid (by unfold bodyT; rw [hs]; rfl)
    have HWB : Hid (∀ k, k ≤ r.body.length → 0 ≤ wsum m r k ∧ wsum m r k ≤ 1048576 * k) := Lib.hid (fun k hk => wsum_bound hok hs k hk)
    have HWL := Lib.hid (hok.wlen hs)
    have HW : Hid (∀ j, j < r.w.length → 0 ≤ ix r.w j ∧ ix r.w j ≤ 1048576) := Lib.hid (hok.w hs)
    clear hsl hs hm hcb hcw hal hok hnz hfit
    go_enter Tryz.func67, Tryz.ntmps67
    go_upto_region 3 with fail
    generalize w.alloc (.cells #[.bool r.choice, vh, .bool true, .int .i64 r.bound, .slice a2 r.body.length c2, .slice a3 r.w.length c3] 54) = W0 at *
    go_loop [5, 6] (fun s i => BdRel m r s i) (fun _ i => r.body.length - (intOf i).toNat)
    case atStart => exact ⟨0, Nat.zero_le _, rfl, rfl⟩
    case round =>
      obtain ⟨k, hk, rfl, rfl⟩ := hrel
      have hwb := HWB.out k hk
      by_cases hlt : k < r.body.length
      · obtain ⟨b2, o2, rfl, hc1⟩ := HCB.out k hlt
        obtain ⟨b3, o3, rfl, hc2⟩ := HCW.out k (by have := HWL.out; omega)
        have hltw : k < r.w.length := by have := HWL.out; omega
        have hwk := HW.out k hltw
        have HLK := Lib.hid (HLT.out k hlt)
        have HNZ := Lib.hid (HNZA.out k hlt)
        have HIM := HM
        cases hh : litT m (ix r.body k) with
        | true =>
          have HN : Hid (wsum m r (k + 1) = wsum m r k + ix r.w k) := Lib.hid (by rw [wsum, hh]; rfl)
          have HHH := Lib.hid hh
          clear hh
          go_wp2_with (go_at_call 112; (with_reducible refine (rtrue_any _ m _ _ HIM.out HNZ.out HLK.out).mono ?_); rintro e w1 ⟨e1, rfl⟩; rw [HHH.out] at e1; subst e1)
          first
            | (go_round
               case rel => (exact ⟨k + 1, by omega, by go_num, by rw [HN.out]⟩)
               case measure => (simp [intOf]; omega))
            | (refine ⟨?_, ?_⟩
               · (exact ⟨k + 1, by omega, by go_num, by rw [HN.out]⟩)
               · (simp [intOf]; omega))
        | false =>
          have HN : Hid (wsum m r (k + 1) = wsum m r k) := Lib.hid (by rw [wsum, hh]; simp)
          have HHH := Lib.hid hh
          clear hh
          go_wp2_with (go_at_call 112; (with_reducible refine (rtrue_any _ m _ _ HIM.out HNZ.out HLK.out).mono ?_); rintro e w1 ⟨e1, rfl⟩; rw [HHH.out] at e1; subst e1)
          first
            | (go_round
               case rel => (exact ⟨k + 1, by omega, by go_num, by rw [HN.out]⟩)
               case measure => (simp [intOf]; omega))
            | (refine ⟨?_, ?_⟩
               · (exact ⟨k + 1, by omega, by go_num, by rw [HN.out]⟩)
               · (simp [intOf]; omega))
      · obtain rfl : k = r.body.length := by omega
        go_wp2
        go_ret
        exact ⟨ret_bool HF.out.symm, HAL.out⟩

end Go.Proofs.YtfhpfbakoiekpaaGreatDoor

/- ostlerref26: Models. -/
namespace Go.Proofs.YtfhpfbakoiekpaaGreatDoor
open Go.RowKit

theorem anyR_next (n : Nat) (f : Nat → Bool) : anyR (n + 1) f = (anyR n f || f n) := by
  unfold anyR
  rw [List.range_succ, List.any_append]
  simp

def RmRel (p : GP) (m : List Int) (c : List Value) (w : World) (i : Value) (wx : World) : Prop :=
  ∃ k : Nat, k ≤ p.rules.length ∧ i = .int .i64 k ∧ (∀ j, j < k → satT (ixR p.rules j) m = true) ∧ Blk wx w.heap.size c 27 ∧ Below w.heap.size w wx

def hdTo (r : GR) (m : List Int) (j : Nat) : Bool := r.choice || anyR j (fun t => decide (ix r.head t ∈ m))
theorem hdTo_next (r : GR) (m : List Int) (j : Nat) : hdTo r m (j + 1) = (hdTo r m j || decide (ix r.head j ∈ m)) := by
  unfold hdTo
  rw [anyR_next, Bool.or_assoc]
theorem sat_hd (r : GR) (m : List Int) : satT r m = (hdTo r m r.head.length || !bodyT r m) := by
  unfold satT hdTo
  cases r.choice <;> cases bodyT r m <;> simp

set_option maxHeartbeats 4000000 in
set_option maxRecDepth 100000 in
theorem rmodels_any (v vm : Value) (p : GP) (m : List Int) (w : World) (h : ProgIs w v p) (hm : Ints w vm m) (hv : validE p = 0) :
    Calls Tryz.prog 70 #[v, vm] w fun e w' => e = .returned (.bool (modelsB p m)) ∧ Below w.heap.size w w' := by
  obtain ⟨vn, vs, vr, vmn, rfl, hn, -, -, hrules, -⟩ := h
  obtain ⟨a1, c1, rfl, -, hl1, -, hcell⟩ := hrules.form
  obtain ⟨am, cm, rfl, -⟩ := hm.form
  have hal := bal (Below.refl w.heap.size w) (.cells #[.int .i64 p.n, vn, vs, .slice a1 p.rules.length c1, vmn] 27)
  have HAL := Lib.hid hal
  have HBK := Lib.hid (Blk.new w [.int .i64 p.n, vn, vs, .slice a1 p.rules.length c1, vmn] 27)
  have HV := Lib.hid hv
  have HM := Lib.hid hm
  clear hal hm hv hrules
  go_enter Tryz.func70, Tryz.ntmps70
  go_upto_region 2 with fail
  generalize w.alloc (.cells #[.int .i64 p.n, vn, vs, .slice a1 p.rules.length c1, vmn] 27) = W0 at *
  go_loopw [5] (fun i wx => RmRel p m [.int .i64 p.n, vn, vs, .slice a1 p.rules.length c1, vmn] w i wx) (fun i _ => p.rules.length - (intOf i).toNat)
  case atStart => exact ⟨0, Nat.zero_le _, rfl, fun j hj => absurd hj (Nat.not_lt_zero _), HBK.out, HAL.out⟩
  case round =>
    obtain ⟨k, hk, rfl, hall, hbx, hb⟩ := hrel
    have HA := Lib.hid hall
    have HX := Lib.hid hbx
    have HB := Lib.hid hb
    have kx := hbx.cell
    have hlx := hbx.lt
    by_cases hlt : k < p.rules.length
    · obtain ⟨b, off, rfl, hbl, hc⟩ := hcell (by omega)
      obtain ⟨vh, vb, vw, hcc, hsl⟩ := hc k hlt
      obtain ⟨r0, r1, r2, r3, r4, r5⟩ := hcc.below hb hbl
      obtain ⟨ah, ch, rfl, -, hlh, -, hch⟩ := hsl.head.form
      obtain ⟨ab, cb, rfl, -, hlb, -, -⟩ := hsl.body.form
      obtain ⟨aw, cw, rfl, -, hlw, -, -⟩ := hsl.wts.form
      have hb6 := bal (Below.refl wr.heap.size wr) (.cells #[.bool (ixR p.rules k).choice, .slice ah (ixR p.rules k).head.length ch, .bool (ixR p.rules k).sum, .int .i64 (ixR p.rules k).bound, .slice ab (ixR p.rules k).body.length cb, .slice aw (ixR p.rules k).w.length cw] 54)
      have HRB := Lib.hid (Blk.new wr [.bool (ixR p.rules k).choice, .slice ah (ixR p.rules k).head.length ch, .bool (ixR p.rules k).sum, .int .i64 (ixR p.rules k).bound, .slice ab (ixR p.rules k).body.length cb, .slice aw (ixR p.rules k).w.length cw] 54)
      have HB6 := Lib.hid (bon hb hb6)
      have HX6 := Lib.hid (hbx.below hb6)
      have HSL := Lib.hid (hsl.below (bon hb hb6))
      have HMI := Lib.hid (HM.out.below (bon hb hb6))
      have HCH : Hid (∀ j, j < (ixR p.rules k).head.length → ∃ b off, ah = some ⟨b, off, none⟩ ∧ (wr.alloc (.cells #[.bool (ixR p.rules k).choice, .slice ah (ixR p.rules k).head.length ch, .bool (ixR p.rules k).sum, .int .i64 (ixR p.rules k).bound, .slice ab (ixR p.rules k).body.length cb, .slice aw (ixR p.rules k).w.length cw] 54)).cell? ⟨b, off + j, none⟩ = some (.int .i64 (ix (ixR p.rules k).head j))) := Lib.hid (fun j hj => by
        obtain ⟨b, off, e, hl, hc⟩ := hch (by omega)
        exact ⟨b, off, e, (bcell (bon hb hb6) _ _ hl).trans (hc j hj)⟩)
      have HSAT := Lib.hid (sat_hd (ixR p.rules k) m)
      have HOK := Lib.hid (bodyOk_valid HV.out hlt)
      have HNZ : Hid (∀ j, j < (ixR p.rules k).body.length → ix (ixR p.rules k).body j ≠ 0) := Lib.hid (fun j hj => (ordered_lit ((validP HV.out).body k hlt) (ix_mem hj)).1)
      have HFM : Hid (satT (ixR p.rules k) m = false → modelsB p m = false) := Lib.hid (fun h => allR_false k hlt h)
      have HNX : Hid (satT (ixR p.rules k) m = true → ∀ j, j < k + 1 → satT (ixR p.rules j) m = true) := Lib.hid (fun h => lt_succ_all HA.out h)
      clear hc hcc hsl hall hbx hb hch hcell HA
      go_upto_region 7 with fail
      generalize (wr.alloc (.cells #[.bool (ixR p.rules k).choice, .slice ah (ixR p.rules k).head.length ch, .bool (ixR p.rules k).sum, .int .i64 (ixR p.rules k).bound, .slice ab (ixR p.rules k).body.length cb, .slice aw (ixR p.rules k).w.length cw] 54)) = W1 at *
      clear r0 r1 r2 r3 r4 r5 hb6 kx
      generalize ixR p.rules k = r at *
      have kr := HRB.out.cell
      have hh0 : hdTo r m 0 = r.choice := by unfold hdTo; simp [anyR]
      have HH0 := Lib.hid hh0
      clear hh0
      go_loop [7, 8] (fun hd j => ∃ t : Nat, t ≤ r.head.length ∧ j = .int .i64 t ∧ hd = .bool (hdTo r m t)) (fun _ j => r.head.length - (intOf j).toNat)
      case atStart => exact ⟨0, Nat.zero_le _, rfl, by rw [HH0.out]⟩
      case round =>
        obtain ⟨t, ht, rfl, rfl⟩ := hrel
        have HHN := Lib.hid (hdTo_next r m t)
        by_cases hlt2 : t < r.head.length
        · obtain ⟨b2, o2, rfl, hc2⟩ := HCH.out t hlt2
          have HIN := Lib.hid (in_any _ _ _ HMI.out (ix r.head t))
          cases hh : hdTo r m t with
          | true =>
            rw [hh] at HHN
            clear hh
            go_wp2
            first
              | (go_round
                 case rel => (exact ⟨t + 1, hlt2, by go_num, by rw [HHN.out]; rfl⟩)
                 case measure => (simp [intOf]; omega))
              | (refine ⟨?_, ?_⟩
                 · (exact ⟨t + 1, hlt2, by go_num, by rw [HHN.out]; rfl⟩)
                 · (simp [intOf]; omega))
          | false =>
            rw [hh] at HHN
            clear hh
            go_wp2_with (go_at_call 31; (with_reducible refine (HIN.out).mono ?_); rintro e w1 ⟨rfl, rfl⟩)
            first
              | (go_round
                 case rel => (exact ⟨t + 1, hlt2, by go_num, by rw [HHN.out]; rfl⟩)
                 case measure => (simp [intOf]; omega))
              | (refine ⟨?_, ?_⟩
                 · (exact ⟨t + 1, hlt2, by go_num, by rw [HHN.out]; rfl⟩)
                 · (simp [intOf]; omega))
        · obtain rfl : t = r.head.length := by omega
          have HBD := Lib.hid (rfbody_any (.agg #[.bool r.choice, .slice ah r.head.length ch, .bool r.sum, .int .i64 r.bound, .slice ab r.body.length cb, .slice aw r.w.length cw]) _ r m W1 ⟨_, _, _, rfl, HSL.out⟩ HMI.out HOK.out HNZ.out)
          clear HHN
          cases hbt : bodyT r m with
          | true =>
            rw [hbt] at HSAT HBD
            clear hbt
            cases hh : hdTo r m r.head.length with
            | true =>
              rw [hh] at HSAT
              have HN := Lib.hid (HNX.out (by rw [HSAT.out]; rfl))
              clear hh
              go_wp2_with (go_at_call 67; (with_reducible refine (HBD.out).mono ?_); rintro e w1 ⟨rfl, hb1⟩; have HB1 := Lib.hid (bon HB6.out hb1); have HX1 := Lib.hid (HX6.out.below hb1); clear hb1)
              first
                | (go_roundw
                   case rel => (exact ⟨k + 1, hlt, by go_num, HN.out, HX1.out, HB1.out⟩)
                   case measure => (simp [intOf]; omega))
                | (refine ⟨?_, ?_⟩
                   · (exact ⟨k + 1, hlt, by go_num, HN.out, HX1.out, HB1.out⟩)
                   · (simp [intOf]; omega))
            | false =>
              rw [hh] at HSAT
              have HN := Lib.hid (HFM.out (by rw [HSAT.out]; rfl))
              clear hh
              go_wp2_with (go_at_call 67; (with_reducible refine (HBD.out).mono ?_); rintro e w1 ⟨rfl, hb1⟩; have HB1 := Lib.hid (bon HB6.out hb1); clear hb1)
              go_ret
              exact ⟨ret_bool HN.out.symm, HB1.out⟩
          | false =>
            rw [hbt] at HSAT HBD
            have HN := Lib.hid (HNX.out (by rw [HSAT.out]; simp))
            clear hbt
            go_wp2_with (go_at_call 67; (with_reducible refine (HBD.out).mono ?_); rintro e w1 ⟨rfl, hb1⟩; have HB1 := Lib.hid (bon HB6.out hb1); have HX1 := Lib.hid (HX6.out.below hb1); clear hb1)
            first
              | (go_roundw
                 case rel => (exact ⟨k + 1, hlt, by go_num, HN.out, HX1.out, HB1.out⟩)
                 case measure => (simp [intOf]; omega))
              | (refine ⟨?_, ?_⟩
                 · (exact ⟨k + 1, hlt, by go_num, HN.out, HX1.out, HB1.out⟩)
                 · (simp [intOf]; omega))
    · have HN : Hid (modelsB p m = true) := Lib.hid (allR_true (fun j hj => HA.out j (by omega)))
      go_wp2
      go_ret
      exact ⟨ret_bool HN.out.symm, HB.out⟩

end Go.Proofs.YtfhpfbakoiekpaaGreatDoor

/- ostlerref17.Atoms, ostlerref17.lits, ostlerref17.total. -/
namespace Go.Proofs.YtfhpfbakoiekpaaGreatDoor
open Go.RowKit


def atomAt (l : List Int) (n : Int) (i : Nat) : Bool := decide (1 ≤ ix l i ∧ ix l i ≤ n) && (i == 0 || decide (ix l (i - 1) < ix l i))

theorem ordI_pos {x y : Int} (hx : 1 ≤ x) (hy : 1 ≤ y) : ordI x y < 0 ↔ x < y := by
  unfold ordI orI cmpI
  grind

theorem atoms_increasing (l : List Int) (n : Int) : increasingB l n = allR l.length (atomAt l n) := by
  rw [Bool.eq_iff_iff]
  constructor
  · intro h
    refine allR_true fun i hi => ?_
    unfold increasingB orderedB at h
    simp only [Bool.and_eq_true] at h
    have h1 := allR_get h.1 i hi
    have h2 := allR_get h.2 i hi
    simp only [okAt, litB, Bool.and_eq_true, Bool.or_eq_true, beq_iff_eq, decide_eq_true_eq] at h1 h2
    simp only [atomAt, Bool.and_eq_true, Bool.or_eq_true, beq_iff_eq, decide_eq_true_eq]
    refine ⟨by omega, ?_⟩
    rcases h1.2 with h3 | h3
    · exact .inl h3
    · by_cases hi0 : i = 0
      · exact .inl hi0
      · have h4 := allR_get h.2 (i - 1) (by omega)
        simp only [decide_eq_true_eq] at h4
        exact .inr ((ordI_pos (by omega) (by omega)).1 h3)
  · intro h
    have hp : ∀ i, i < l.length → 1 ≤ ix l i ∧ ix l i ≤ n ∧ (i = 0 ∨ ix l (i - 1) < ix l i) := fun i hi => by
      have := allR_get h i hi
      simp only [atomAt, Bool.and_eq_true, Bool.or_eq_true, beq_iff_eq, decide_eq_true_eq] at this
      exact ⟨this.1.1, this.1.2, this.2⟩
    unfold increasingB orderedB
    rw [Bool.and_eq_true]
    refine ⟨allR_true fun i hi => ?_, allR_true fun i hi => by have := hp i hi; simp only [decide_eq_true_eq]; omega⟩
    have h1 := hp i hi
    simp only [okAt, litB, Bool.and_eq_true, Bool.or_eq_true, beq_iff_eq, decide_eq_true_eq]
    refine ⟨by omega, ?_⟩
    by_cases hi0 : i = 0
    · exact .inl hi0
    · have h2 := hp (i - 1) (by omega)
      exact .inr ((ordI_pos (by omega) (by omega)).2 (by omega))

def AtRel (l : List Int) (P : Nat → Bool) (w : World) (i : Value) (wx : World) : Prop := ∃ k : Nat, k ≤ l.length ∧ i = .int .i64 k ∧ (∀ j, j < k → P j = true) ∧ Below w.heap.size w wx

set_option maxHeartbeats 2000000 in
theorem atoms_ref (v : Value) (l : List Int) (n : Int) (w : World) (h : Ints w v l) :
    Calls Tryz.prog 52 #[v, .int .i64 n] w fun e w' => e = .returned (.bool (increasingB l n)) ∧ Below w.heap.size w w' := by
  have HE := Lib.hid (atoms_increasing l n)
  obtain ⟨a, c, rfl, -, hl, -, hcell⟩ := h.form
  have HFI := Lib.hid h.2
  clear h
  go_enter Tryz.func52, Tryz.ntmps52
  go_wp2
  go_loopw [5] (fun i wx => AtRel l (atomAt l n) w i wx) (fun i _ => l.length - (intOf i).toNat)
  case atStart => exact ⟨0, by omega, rfl, fun j hj => absurd hj (Nat.not_lt_zero _), Below.refl _ _⟩
  case round =>
    obtain ⟨k, hk, rfl, hall, hb⟩ := hrel
    have HA := Lib.hid hall
    clear hall
    by_cases hlt : k < l.length
    · obtain ⟨b, off, rfl, hbl, hc⟩ := hcell (by omega)
      have hlr : b < wr.heap.size := Nat.lt_of_lt_of_le hbl hb.size
      have k1 : ∀ e : Ext wr, e.world.cell? ⟨b, off + k, none⟩ = some (.int .i64 (ix l k)) := fun e => (bcell e.below _ _ hlr).trans ((bcell hb _ _ hbl).trans (hc k hlt))
      have HK := Lib.hid (show atomAt l n k = (decide (1 ≤ ix l k ∧ ix l k ≤ n) && (k == 0 || decide (ix l (k - 1) < ix l k))) from rfl)
      have HB : Hid (atomAt l n k = false → increasingB l n = false) := Lib.hid (fun h => by rw [HE.out]; exact allR_false k hlt h)
      have HG : Hid (atomAt l n k = true → ∀ j, j < k + 1 → atomAt l n j = true) := Lib.hid (fun h => lt_succ_all HA.out h)
      have hf := HFI.out k
      by_cases c1 : ix l k < 1
      · have HF := Lib.hid (HB.out (by rw [HK.out, decide_eq_false (by omega)]; rfl))
        clear hc
        have d1 : decide (ix l k < 1) = true := decide_eq_true c1
        go_wp2
        refine wp_region_ext (by kernel_rfl) (by kernel_rfl) ?_
        repeat (go_big_quiet_step (fail))
        refine wpQuiet_nil ?_
        intro _ hw'
        obtain ⟨⟨w9, hb9⟩, rfl⟩ := hw'
        try dsimp only
        go_wp2
        go_ret
        exact ⟨ret_bool HF.out.symm, bon hb hb9⟩
      · have d1 : decide (ix l k < 1) = false := decide_eq_false c1
        by_cases c2 : n < ix l k
        · have HF := Lib.hid (HB.out (by rw [HK.out, decide_eq_false (by omega)]; rfl))
          clear hc
          have d2 : decide (n < ix l k) = true := decide_eq_true c2
          go_wp2
          refine wp_region_ext (by kernel_rfl) (by kernel_rfl) ?_
          repeat (go_big_quiet_step (fail))
          refine wpQuiet_nil ?_
          intro _ hw'
          obtain ⟨⟨w9, hb9⟩, rfl⟩ := hw'
          try dsimp only
          go_wp2
          go_ret
          exact ⟨ret_bool HF.out.symm, bon hb hb9⟩
        · have d2 : decide (n < ix l k) = false := decide_eq_false c2
          by_cases c3 : k = 0
          · subst c3
            have k10 : ∀ e : Ext wr, e.world.cell? ⟨b, off, none⟩ = some (.int .i64 (ix l 0)) := k1
            have HN := Lib.hid (HG.out (by rw [HK.out, decide_eq_true (by omega)]; rfl))
            clear hc
            go_wp2
            refine wp_region_ext (by kernel_rfl) (by kernel_rfl) ?_
            repeat (go_big_quiet_step (fail))
            refine wpQuiet_nil ?_
            intro _ hw'
            obtain ⟨⟨w9, hb9⟩, rfl⟩ := hw'
            try dsimp only
            go_wp2
            first
              | (go_roundw
                 case rel => (exact ⟨1, by omega, by go_num, HN.out, bon hb hb9⟩)
                 case measure => (simp [intOf]; omega))
              | (refine ⟨?_, ?_⟩
                 · (exact ⟨1, by omega, by go_num, HN.out, bon hb hb9⟩)
                 · (simp [intOf]; omega))
          · have c3' : 0 < k := by omega
            have d3 : decide (0 < k) = true := decide_eq_true c3'
            have k2 : ∀ e : Ext wr, e.world.cell? ⟨b, off + (k - 1), none⟩ = some (.int .i64 (ix l (k - 1))) := fun e => (bcell e.below _ _ hlr).trans ((bcell hb _ _ hbl).trans (hc (k - 1) (by omega)))
            have hf2 := HFI.out (k - 1)
            clear hc
            by_cases c4 : ix l k ≤ ix l (k - 1)
            · have HF := Lib.hid (HB.out (by rw [HK.out, show decide (ix l (k - 1) < ix l k) = false from decide_eq_false (by omega), show (k == 0) = false from beq_eq_false_iff_ne.2 c3]; simp))
              have d4 : decide (ix l k ≤ ix l (k - 1)) = true := decide_eq_true c4
              go_wp2
              refine wp_region_ext (by kernel_rfl) (by kernel_rfl) ?_
              repeat (go_big_quiet_step (fail))
              refine wpQuiet_nil ?_
              intro _ hw'
              obtain ⟨⟨w9, hb9⟩, rfl⟩ := hw'
              try dsimp only
              go_wp2
              go_ret
              exact ⟨ret_bool HF.out.symm, bon hb hb9⟩
            · have HN := Lib.hid (HG.out (by rw [HK.out, show decide (ix l (k - 1) < ix l k) = true from decide_eq_true (by omega), show decide (1 ≤ ix l k ∧ ix l k ≤ n) = true from decide_eq_true (by omega)]; simp))
              have d4 : decide (ix l k ≤ ix l (k - 1)) = false := decide_eq_false c4
              go_wp2
              refine wp_region_ext (by kernel_rfl) (by kernel_rfl) ?_
              repeat (go_big_quiet_step (fail))
              refine wpQuiet_nil ?_
              intro _ hw'
              obtain ⟨⟨w9, hb9⟩, rfl⟩ := hw'
              try dsimp only
              go_wp2
              first
                | (go_roundw
                   case rel => (exact ⟨k + 1, by omega, by go_num, HN.out, bon hb hb9⟩)
                   case measure => (simp [intOf]; omega))
                | (refine ⟨?_, ?_⟩
                   · (exact ⟨k + 1, by omega, by go_num, HN.out, bon hb hb9⟩)
                   · (simp [intOf]; omega))
    · have HF : Hid (increasingB l n = true) := Lib.hid (by rw [HE.out]; exact allR_true (fun j hj => HA.out j (by omega)))
      go_wp2
      go_ret
      exact ⟨ret_bool HF.out.symm, hb⟩

theorem before_any (x y : Int) (w : World) (h : -4611686018427387904 ≤ x ∧ x ≤ 4611686018427387904) (g : -4611686018427387904 ≤ y ∧ y ≤ 4611686018427387904) :
    Calls Tryz.prog 106 #[.int .i64 x, .int .i64 y] w fun e w' => e = .returned (.bool (decide (ordI x y < 0))) ∧ w = w' := by
  have HO : Hid (decide (ordI x y < 0) = (decide (x.natAbs < y.natAbs) || (decide (x.natAbs = y.natAbs) && decide (y < x)))) := Lib.hid (by
    unfold ordI orI cmpI
    grind)
  by_cases hx : x < 0 <;> by_cases hy : y < 0
  all_goals
    go_enter Tryz.func106, Tryz.ntmps106
    go_wp2
    all_goals
      go_ret
      exact ⟨ret_bool (by first | (rw [HO.out]; grind) | (unfold ordI orI cmpI; grind)), rfl⟩

end Go.Proofs.YtfhpfbakoiekpaaGreatDoor
