/- My texts QRow, LoopP, Lp1, Lp2, Lp3, Lp4, merged. -/
import Derived.Test.YtjodocheiejkeaaGreatDoorM03
import Derived.Test.YtjodocheiejkeaaGreatDoorM02
import Derived.Test.YtjodocheiejkeaaGreatDoorM00
import Derived.Test.YtjodocheiejkeaaGreatDoorProg
import Derived.WalkKit
import Derived.Lib.Hide
import Derived.Deep.QuietTactic
import Derived.BigQuiet
import Derived.WalkSpells
import Derived.Lib.SliceRun
import Derived.MapKept
import Derived.Maps.OwnSet
import Derived.Maps.OwnOps
import Derived.Test.YtjodocheiejkeaaGreatDoorM01
import Derived.Deep.AppendLies
import Derived.Test.YtjodocheiejkeaaGreatDoorM04
import Derived.Lib.Bytealg
import Derived.Deep.DeepCutAuto
import Derived.Test.YtjodocheiejkeaaGreatDoorM06

namespace Go.Proofs.YtjodocheiejkeaaGreatDoor
open Go.RowKit
theorem allR_succ (n : Nat) (f : Nat → Bool) : allR (n + 1) f = (allR n f && f n) := by
  simp [allR, List.range_succ, List.all_append]
def loopP : GP := ⟨3, [⟨#[97]⟩, ⟨#[98]⟩, ⟨#[99]⟩], [], [⟨false, [1], false, 0, [2], []⟩, ⟨false, [2], false, 0, [1], []⟩, ⟨false, [1], false, 0, [3], []⟩, ⟨true, [3], false, 0, [], []⟩], []⟩
def loopCells (m : Nat) : List Value :=
  [.bool false, .slice (some ⟨m + 1, 0, none⟩) 1 1, .bool false, .int .i64 0, .slice (some ⟨m + 2, 0, none⟩) 1 1, .slice none 0 0,
   .bool false, .slice (some ⟨m + 3, 0, none⟩) 1 1, .bool false, .int .i64 0, .slice (some ⟨m + 4, 0, none⟩) 1 1, .slice none 0 0,
   .bool false, .slice (some ⟨m + 5, 0, none⟩) 1 1, .bool false, .int .i64 0, .slice (some ⟨m + 6, 0, none⟩) 1 1, .slice none 0 0,
   .bool true, .slice (some ⟨m + 7, 0, none⟩) 1 1, .bool false, .int .i64 0, .slice none 0 0, .slice none 0 0]
theorem loop_prog {m : Nat} {w : World} (b1 : Blk w (m) [.string ⟨#[97]⟩, .string ⟨#[98]⟩, .string ⟨#[99]⟩] 9) (b2 : Blk w (m + 1) [.int .i64 1] 3) (b3 : Blk w (m + 2) [.int .i64 2] 3) (b4 : Blk w (m + 3) [.int .i64 2] 3)
    (b5 : Blk w (m + 4) [.int .i64 1] 3) (b6 : Blk w (m + 5) [.int .i64 1] 3) (b7 : Blk w (m + 6) [.int .i64 3] 3) (b8 : Blk w (m + 7) [.int .i64 3] 3) (b9 : Blk w (m + 8) (loopCells m) 55) :
    ProgIs w (.agg #[.int .i64 3, .slice (some ⟨m, 0, none⟩) 3 3, .slice none 0 0, .slice (some ⟨m + 8, 0, none⟩) 4 4, .slice none 0 0]) loopP := by
  have i1 : InI 1 := by unfold InI; omega
  have i2 : InI 2 := by unfold InI; omega
  have i3 : InI 3 := by unfold InI; omega
  have i0 : InI 0 := by unfold InI; omega
  refine ⟨_, _, _, _, rfl, i3, ⟨⟨_, 3, rfl, Nat.le_refl _, by unfold maxLen; omega, by simp [loopP], fun _ => ⟨m, 0, rfl, b1.lt, fun i hi => ?_⟩⟩, fun i => ?_⟩, nil_ints w, ?_, ⟨fun _ => nilS, fun _ => nilS, ⟨none, 0, rfl, Nat.le_refl _, by unfold maxLen; omega, by simp [loopP], fun h => absurd h (by simp [loopP])⟩, fun i hi => absurd hi (by simp [loopP])⟩⟩
  · rw [b1.cell]
    simp only [loopP, List.length_cons, List.length_nil] at hi
    rcases (show i = 0 ∨ i = 1 ∨ i = 2 by omega) with rfl | rfl | rfl <;> rfl
  · have hs : ∀ l : List ByteArray, (∀ x ∈ l, x.size ≤ 1) → (ixS l i).size ≤ 140737488351232 := fun l hl => by
      unfold ixS
      rw [List.getD_eq_getElem?_getD]
      cases h : l[i]? with
      | none => decide
      | some x =>
        have := hl x (List.mem_of_getElem? h)
        simp only [Option.getD_some]
        omega
    refine hs _ (fun x hx => ?_)
    simp only [loopP, List.mem_cons, List.not_mem_nil, or_false] at hx
    rcases hx with rfl | rfl | rfl <;> decide
  · refine ⟨fun i => .slice (some ⟨m + 1 + 2 * i, 0, none⟩) 1 1, fun i => if i < 3 then .slice (some ⟨m + 2 + 2 * i, 0, none⟩) 1 1 else .slice none 0 0, fun _ => .slice none 0 0, ⟨_, 4, rfl, Nat.le_refl _, by unfold maxLen; omega, by simp [loopP], fun _ => ⟨m + 8, 0, rfl, b9.lt, fun i hi j hj => ?_⟩⟩, fun i hi => ?_⟩
    · rw [b9.cell]
      simp only [loopP, List.length_cons, List.length_nil] at hi
      rcases (show i = 0 ∨ i = 1 ∨ i = 2 ∨ i = 3 by omega) with rfl | rfl | rfl | rfl <;> rcases (show j = 0 ∨ j = 1 ∨ j = 2 ∨ j = 3 ∨ j = 4 ∨ j = 5 by omega) with rfl | rfl | rfl | rfl | rfl | rfl <;> rfl
    · simp only [loopP, List.length_cons, List.length_nil] at hi
      rcases (show i = 0 ∨ i = 1 ∨ i = 2 ∨ i = 3 by omega) with rfl | rfl | rfl | rfl
      · exact ⟨b2.ints1 i1, b3.ints1 i2, nil_ints w, i0⟩
      · exact ⟨b4.ints1 i2, b5.ints1 i1, nil_ints w, i0⟩
      · exact ⟨b6.ints1 i1, b7.ints1 i3, nil_ints w, i0⟩
      · exact ⟨b8.ints1 i3, nil_ints w, nil_ints w, i0⟩
def disP : GP := ⟨2, [⟨#[97]⟩, ⟨#[98]⟩], [], [⟨false, [1, 2], false, 0, [], []⟩], []⟩
theorem dis_prog {n1 n2 n3 : Nat} {w : World} (b1 : Blk w n1 [.string ⟨#[97]⟩, .string ⟨#[98]⟩] 9) (b2 : Blk w n2 [.int .i64 1, .int .i64 2] 3)
    (b3 : Blk w n3 [.bool false, .slice (some ⟨n2, 0, none⟩) 2 2, .bool false, .int .i64 0, .slice none 0 0, .slice none 0 0] 55) :
    ProgIs w (.agg #[.int .i64 2, .slice (some ⟨n1, 0, none⟩) 2 2, .slice none 0 0, .slice (some ⟨n3, 0, none⟩) 1 1, .slice none 0 0]) disP := by
  have i0 : InI 0 := by unfold InI; omega
  have i2 : InI 2 := by unfold InI; omega
  refine ⟨_, _, _, _, rfl, i2, ⟨⟨_, 2, rfl, Nat.le_refl _, by unfold maxLen; omega, by simp [disP], fun _ => ⟨n1, 0, rfl, b1.lt, fun i hi => ?_⟩⟩, fun i => ?_⟩, nil_ints w, ?_, ⟨fun _ => nilS, fun _ => nilS, ⟨none, 0, rfl, Nat.le_refl _, by unfold maxLen; omega, by simp [disP], fun h => absurd h (by simp [disP])⟩, fun i hi => absurd hi (by simp [disP])⟩⟩
  · rw [b1.cell]
    simp only [disP, List.length_cons, List.length_nil] at hi
    rcases (show i = 0 ∨ i = 1 by omega) with rfl | rfl <;> rfl
  · have hs : ∀ l : List ByteArray, (∀ x ∈ l, x.size ≤ 1) → (ixS l i).size ≤ 140737488351232 := fun l hl => by
      unfold ixS
      rw [List.getD_eq_getElem?_getD]
      cases h : l[i]? with
      | none => decide
      | some x =>
        have := hl x (List.mem_of_getElem? h)
        simp only [Option.getD_some]
        omega
    refine hs _ (fun x hx => ?_)
    simp only [disP, List.mem_cons, List.not_mem_nil, or_false] at hx
    rcases hx with rfl | rfl <;> decide
  · refine ⟨fun _ => .slice (some ⟨n2, 0, none⟩) 2 2, fun _ => .slice none 0 0, fun _ => .slice none 0 0, ⟨_, 1, rfl, Nat.le_refl _, by unfold maxLen; omega, by simp [disP], fun _ => ⟨n3, 0, rfl, b3.lt, fun i hi j hj => ?_⟩⟩, fun i hi => ?_⟩
    · rw [b3.cell]
      simp only [disP, List.length_cons, List.length_nil] at hi
      obtain rfl : i = 0 := by omega
      rcases (show j = 0 ∨ j = 1 ∨ j = 2 ∨ j = 3 ∨ j = 4 ∨ j = 5 by omega) with rfl | rfl | rfl | rfl | rfl | rfl <;> rfl
    · simp only [disP, List.length_cons, List.length_nil] at hi
      obtain rfl : i = 0 := by omega
      exact ⟨Blk.ints (l := [1, 2]) b2 (fitI (by simp [InI])) (by simp), nil_ints w, nil_ints w, i0⟩
def setB' (n : Int) (S : List Int) : Bool := allR S.length (setTo n S) && decide (0 < S.length)
set_option maxHeartbeats 2000000 in
theorem isSet_any (v vs : Value) (p : GP) (S : List Int) (w : World) (h : ProgIs w v p) (hs : Ints w vs S) :
    Calls Tryz.prog 46 #[v, vs] w fun e w' => e = .returned (.bool (setB' p.n S)) ∧ Below w.heap.size w w' := by
  obtain ⟨vn, vsh, vr, vm, rfl, hn, -⟩ := h
  have hal := bal (Below.refl w.heap.size w) (.cells #[.int .i64 p.n, vn, vsh, vr, vm] 27)
  have hbk := Blk.new w [.int .i64 p.n, vn, vsh, vr, vm] 27
  obtain ⟨a1, c1, rfl, -, hl1, -, hcell⟩ := (hs.below hal).form
  clear hs
  unfold InI at hn
  go_enter Tryz.func46, Tryz.ntmps46
  go_upto_region 1 with fail
  have kx := hbk.cell 0
  clear hbk
  generalize w.alloc (.cells #[.int .i64 p.n, vn, vsh, vr, vm] 27) = W0 at *
  go_wp2
  go_loop [9] (fun i => ∃ k : Nat, k ≤ S.length ∧ i = .int .i64 k ∧ Hid (∀ j, j < k → setTo p.n S j = true)) (fun i => S.length - (intOf i).toNat)
  case atStart => exact ⟨0, by omega, rfl, Lib.hid (fun j hj => absurd hj (Nat.not_lt_zero _))⟩
  case round =>
    obtain ⟨k, hk, rfl, HA⟩ := hrel
    have HF : Hid (∀ k, k < S.length → setTo p.n S k = false → setB' p.n S = false) := Lib.hid (fun k hk h => by unfold setB'; rw [allR_false k hk h]; rfl)
    by_cases hlt : k < S.length
    · obtain ⟨b, off, rfl, hbl, hc⟩ := hcell (by omega)
      have hk1 := hc k hlt
      by_cases h1 : ix S k < 1
      · have HN : Hid (setTo p.n S k = false) := Lib.hid (by unfold setTo; rw [decide_eq_false (by omega)]; rfl)
        clear hc hcell
        go_wp2
        go_ret
        exact ⟨ret_bool (HF.out k hlt HN.out).symm, hal⟩
      · by_cases h2 : p.n < ix S k
        · have HN : Hid (setTo p.n S k = false) := Lib.hid (by unfold setTo; rw [decide_eq_false (by omega)]; rfl)
          clear hc hcell
          go_wp2
          go_ret
          exact ⟨ret_bool (HF.out k hlt HN.out).symm, hal⟩
        · cases k with
          | zero =>
            have hk0 : W0.cell? ⟨b, off, none⟩ = some (.int .i64 (ix S 0)) := hc 0 hlt
            clear hk1
            have HN := Lib.hid (lt_succ_all HA.out (show setTo p.n S 0 = true by unfold setTo; rw [decide_eq_true (by omega)]; rfl))
            clear hc hcell
            go_wp2
            first
              | (go_round
                 case rel => (exact ⟨0 + 1, by omega, by go_num, HN⟩)
                 case measure => (simp [intOf]; omega))
              | (refine ⟨?_, ?_⟩
                 · (exact ⟨0 + 1, by omega, by go_num, HN⟩)
                 · (simp [intOf]; omega))
          | succ k =>
            have hk0 := hc k (by omega)
            have e1 : (((k + 1 : Nat) : Int) - 1).toNat = k := by omega
            by_cases h3 : ix S k < ix S (k + 1)
            · have HN := Lib.hid (lt_succ_all HA.out (show setTo p.n S (k + 1) = true by unfold setTo; rw [decide_eq_true (by omega), Nat.add_sub_cancel, decide_eq_true h3]; simp))
              clear hc hcell
              go_wp2
              first
                | (go_round
                   case rel => (exact ⟨k + 1 + 1, by omega, by go_num, HN⟩)
                   case measure => (simp [intOf]; omega))
                | (refine ⟨?_, ?_⟩
                   · (exact ⟨k + 1 + 1, by omega, by go_num, HN⟩)
                   · (simp [intOf]; omega))
            · have HN : Hid (setTo p.n S (k + 1) = false) := Lib.hid (by unfold setTo; rw [Nat.add_sub_cancel, decide_eq_false h3]; simp)
              clear hc hcell
              go_wp2
              go_ret
              exact ⟨ret_bool (HF.out (k + 1) hlt HN.out).symm, hal⟩
    · have HN : Hid (setB' p.n S = decide (0 < S.length)) := Lib.hid (by unfold setB'; rw [allR_true (fun j hj => HA.out j (by omega)), Bool.true_and])
      go_wp2
      go_ret
      exact ⟨ret_bool HN.out.symm, hal⟩
set_option maxHeartbeats 1000000 in
theorem lvalue_off (va : Value) (a : List Int) (w : World) (h : Bytes8 w va a) (l : Int) (hl0 : l ≠ 0) (hl : -4611686018427387904 ≤ l ∧ l ≤ 4611686018427387904) (ho : offB a l = true) :
    Calls Tryz.prog 49 #[va, .int .i64 l] w fun e w' => e = .returned (.int .i64 (-1)) ∧ w = w' := by
  obtain ⟨⟨ad, cap, rfl, hcap, hmx, -, hc⟩, hb8⟩ := h
  have e8 : a.length < 9223372036854775808 := by unfold maxLen at hmx; omega
  obtain ⟨n, hn1, hln⟩ : ∃ n : Nat, 1 ≤ n ∧ (l = n ∨ l = -(n : Int)) := ⟨l.natAbs, by omega, by omega⟩
  have hneg : - -(n : Int) = n := by omega
  have h1 : n ≤ a.length := by
    unfold offB at ho
    simp only [Bool.and_eq_true, decide_eq_true_eq] at ho
    omega
  obtain ⟨b0, off0, rfl, hbl, hcc⟩ := hc (by omega)
  have hk : w.cell? ⟨b0, off0 + (n - 1), none⟩ = some (.int .i8 (ix a (n - 1))) := hcc (n - 1) (by omega)
  have hb := hb8 (n - 1)
  have HP := offB_pos a n hn1
  have HN := offB_neg a n
  clear hcc hc hb8
  generalize ix a (n - 1) = y at *
  rcases hln with rfl | rfl
  · rw [HP] at ho
    simp only [Bool.and_eq_true, decide_eq_true_eq] at ho
    have hy : y < 0 := by omega
    have hy0 : (y == 0) = false := by simp; omega
    have hyp : decide (0 < y) = false := decide_eq_false (by omega)
    have hnp : decide (0 < n) = true := decide_eq_true (by omega)
    clear HP HN ho
    go_enter Tryz.func49, Tryz.ntmps49
    go_wp2
    go_ret
    exact ⟨rfl, rfl⟩
  · rw [HN] at ho
    simp only [Bool.and_eq_true, decide_eq_true_eq] at ho
    have hy : 0 < y := by omega
    have hy0 : (y == 0) = false := by simp; omega
    have hyp : decide (0 < y) = true := decide_eq_true hy
    have hnp : decide ((n : Int) < 0) = false := decide_eq_false (by omega)
    clear HP HN ho
    go_enter Tryz.func49, Tryz.ntmps49
    go_wp2
    go_ret
    exact ⟨rfl, rfl⟩
set_option maxHeartbeats 1000000 in
theorem lvalue_on (va : Value) (a : List Int) (w : World) (h : Bytes8 w va a) (l : Int) (hl0 : l ≠ 0) (hl : -4611686018427387904 ≤ l ∧ l ≤ 4611686018427387904) (ho : offB a l = false) :
    Calls Tryz.prog 49 #[va, .int .i64 l] w fun e w' => ∃ v : Nat, v ≤ 1 ∧ e = .returned (.int .i64 v) ∧ w = w' := by
  obtain ⟨⟨ad, cap, rfl, hcap, hmx, -, hc⟩, hb8⟩ := h
  have e8 : a.length < 9223372036854775808 := by unfold maxLen at hmx; omega
  obtain ⟨n, hn1, hln⟩ : ∃ n : Nat, 1 ≤ n ∧ (l = n ∨ l = -(n : Int)) := ⟨l.natAbs, by omega, by omega⟩
  have hneg : - -(n : Int) = n := by omega
  by_cases h1 : n ≤ a.length
  · obtain ⟨b0, off0, rfl, hbl, hcc⟩ := hc (by omega)
    have hk : w.cell? ⟨b0, off0 + (n - 1), none⟩ = some (.int .i8 (ix a (n - 1))) := hcc (n - 1) (by omega)
    have hb := hb8 (n - 1)
    have HP := offB_pos a n hn1
    have HN := offB_neg a n
    clear hcc hc hb8
    generalize ix a (n - 1) = y at *
    by_cases y0 : y = 0
    · subst y0
      clear HP HN ho
      rcases hln with rfl | rfl
      · go_enter Tryz.func49, Tryz.ntmps49
        go_wp2
        go_ret
        exact ⟨0, Nat.zero_le _, rfl, rfl⟩
      · go_enter Tryz.func49, Tryz.ntmps49
        go_wp2
        go_ret
        exact ⟨0, Nat.zero_le _, rfl, rfl⟩
    · have hy0 : (y == 0) = false := by simp; omega
      rcases hln with rfl | rfl
      · rw [HP] at ho
        have hy : 0 < y := by
          refine Classical.byContradiction fun hn => ?_
          rw [decide_eq_true h1, decide_eq_true y0, decide_eq_true hn] at ho
          cases ho
        clear HP HN ho y0
        go_enter Tryz.func49, Tryz.ntmps49
        go_wp2
        go_ret
        exact ⟨1, Nat.le_refl _, rfl, rfl⟩
      · rw [HN] at ho
        have hy : y < 0 := by
          refine Classical.byContradiction fun hn => ?_
          have hy : 0 < y := by omega
          rw [decide_eq_true h1, decide_eq_true y0, decide_eq_true hy] at ho
          cases ho
        have hyp : decide (0 < y) = false := decide_eq_false (by omega)
        have hnn : decide ((n : Int) < 0) = false := decide_eq_false (by omega)
        clear HP HN ho y0
        go_enter Tryz.func49, Tryz.ntmps49
        go_wp2
        go_ret
        exact ⟨1, Nat.le_refl _, rfl, rfl⟩
  · clear ho
    rcases hln with rfl | rfl
    · go_enter Tryz.func49, Tryz.ntmps49
      go_wp2
      go_ret
      exact ⟨0, Nat.zero_le _, rfl, rfl⟩
    · go_enter Tryz.func49, Tryz.ntmps49
      go_wp2
      go_ret
      exact ⟨0, Nat.zero_le _, rfl, rfl⟩
set_option maxHeartbeats 1000000 in
theorem internal_any (v : Value) (u : SU) (l : Int) (w : World) (h : SupIs w v u) :
    Calls Tryz.prog 127 #[v, .int .i64 l] w fun e w' => e = .returned (.bool (intB u.S l)) ∧ Below w.heap.size w w' := by
  obtain ⟨vh, vb, vw, vs, rfl, hsl, hS, hb⟩ := h
  have hal := bal (Below.refl w.heap.size w) (.cells #[.bool u.r.choice, vh, .bool u.r.sum, .int .i64 u.r.bound, vb, vw, .int .i64 u.b, vs] 128)
  obtain ⟨a4, c4, rfl, -, hl4, -, -⟩ := hS.form
  have HS := Lib.hid (hS.below hal)
  clear hS hsl hb
  by_cases hl : 0 < l
  · have HF : Hid (intB u.S l = decide (l ∈ u.S)) := Lib.hid (by unfold intB; rw [decide_eq_true hl, Bool.true_and])
    go_enter Tryz.func127, Tryz.ntmps127
    go_wp2_with (go_at_call 55; (with_reducible refine (contains_any _ _ l _ HS.out).mono ?_); rintro e w1 ⟨rfl, rfl⟩)
    go_ret
    exact ⟨ret_bool HF.out.symm, hal⟩
  · have hl' : decide (0 < l) = false := decide_eq_false hl
    have HF : Hid (intB u.S l = false) := Lib.hid (by unfold intB; rw [hl', Bool.false_and])
    clear hl
    go_enter Tryz.func127, Tryz.ntmps127
    go_wp2
    go_ret
    exact ⟨ret_bool HF.out.symm, hal⟩
theorem wgt_le {u : SU} (h : SUok u) (hs : u.r.sum = true) (g : Int → Bool) : ∀ k, k ≤ u.r.body.length → 0 ≤ wgt u g k ∧ wgt u g k ≤ sumTo u.r.w k
  | 0, _ => by simp [wgt, sumTo]
  | k + 1, hk => by
    have ih := wgt_le h hs g k (by omega)
    have h1 := (h.wts hs).2.1 k (by have := (h.wts hs).1; omega)
    unfold wgt sumTo
    split <;> omega
def WgRel (u : SU) (g : Int → Bool) (w : World) (sum i : Value) (wx : World) : Prop := ∃ k : Nat, k ≤ u.r.body.length ∧ i = .int .i64 k ∧ sum = .int .i64 (wgt u g k) ∧ Below w.heap.size w wx
set_option maxHeartbeats 4000000 in
set_option maxRecDepth 100000 in
theorem wgt_imp1 (v : Value) (u : SU) (w : World) (h : SupIs w v u) (hok : SUok u) (hs : u.r.sum = true) (g : Int → Bool) 
    (hg : ∀ w', Below w.heap.size w w' → ∀ l : Int, 1 ≤ l.natAbs → l.natAbs ≤ 1000000 → Calls Tryz.prog 165 #[.int .i64 l] w' fun e w'' => e = .returned (.bool (g l)) ∧ Below w'.heap.size w' w'') :
    Calls Tryz.prog 133 #[v, .func (.func 165) #[] #[]] w fun e w' => e = .returned (.int .i64 (wgt u g u.r.body.length)) ∧ Below w.heap.size w w' := by
  have h0 := h
  obtain ⟨vh, vb, vw, vs, rfl, hsl, hS, hb⟩ := h
  have hal := bal (Below.refl w.heap.size w) (.cells #[.bool u.r.choice, vh, .bool u.r.sum, .int .i64 u.r.bound, vb, vw, .int .i64 u.b, vs] 128)
  obtain ⟨a1, c1, rfl, -, hl1, -, -⟩ := hsl.head.form
  obtain ⟨a2, c2, rfl, -, hl2, -, hcb⟩ := hsl.body.form
  obtain ⟨a3, c3, rfl, -, hl3, -, hcw⟩ := hsl.wts.form
  obtain ⟨a4, c4, rfl, -, hl4, -, -⟩ := hS.form
  have H0 := Lib.hid h0
  have HG := Lib.hid hg
  have HBK := Lib.hid (Blk.new w [.bool u.r.choice, .slice a1 u.r.head.length c1, .bool u.r.sum, .int .i64 u.r.bound, .slice a2 u.r.body.length c2, .slice a3 u.r.w.length c3, .int .i64 u.b, .slice a4 u.S.length c4] 128)
  have HCB := Lib.hid hcb
  have HCW := Lib.hid hcw
  have HOK := Lib.hid hok
  have HWS := Lib.hid (hok.wts hs)
  have hwl : u.r.w.length ≤ u.r.body.length ∧ u.r.body.length ≤ u.r.w.length := by have := (hok.wts hs).1; omega
  have HSM := Lib.hid hs
  clear h0 hsl hS hb hg hcb hcw hok hs
  go_enter Tryz.func133, Tryz.ntmps133
  go_upto_region 1 with fail
  have HAL := Lib.hid hal
  clear hal
  generalize w.alloc (.cells #[.bool u.r.choice, .slice a1 u.r.head.length c1, .bool u.r.sum, .int .i64 u.r.bound, .slice a2 u.r.body.length c2, .slice a3 u.r.w.length c3, .int .i64 u.b, .slice a4 u.S.length c4] 128) = W0 at *
  have kx := HBK.out.cell
  have hzW : w.heap.size < W0.heap.size := HBK.out.lt
  go_wp2_with fail
  clear kx
  go_loopw [5, 12] (fun s i wx => WgRel u g W0 s i wx) (fun _ i _ => u.r.body.length - (intOf i).toNat)
  case atStart => exact ⟨0, Nat.zero_le _, rfl, rfl, Below.refl _ _⟩
  case round =>
    obtain ⟨k, hk, rfl, rfl, hbx⟩ := hrel
    have HBX := Lib.hid hbx
    have hbw : Below w.heap.size w wr := HAL.out.trans (hbx.mono (by omega))
    have HBW := Lib.hid hbw
    have kx := fun o => (bcell hbx _ o HBK.out.lt).trans (HBK.out.cell o)
    have hz := hbx.size
    have hle := wgt_le HOK.out HSM.out g k hk
    have hsm := HWS.out.2.2 k (by omega)
    clear hbx
    by_cases hlt : k < u.r.body.length
    · obtain ⟨bb, offb, rfl, hbb, hcb⟩ := HCB.out (by omega)
      have kb := (bcell hbw _ _ hbb).trans (hcb k hlt)
      obtain ⟨bw, offw, rfl, hbw2, hcw⟩ := HCW.out (by omega)
      have hcw0 := hcw k (by omega)
      have kw := (bcell hbw _ _ hbw2).trans hcw0
      have hle2 := wgt_le HOK.out HSM.out g (k + 1) hlt
      have hsm2 := HWS.out.2.2 (k + 1) (by omega)
      have hl := HOK.out.lits k hlt
      have HIN := Lib.hid (internal_any _ u (ix u.r.body k) wr (H0.out.below hbw))
      have HST : Hid (wgt u g (k + 1) = wgt u g k + if !intB u.S (ix u.r.body k) && g (ix u.r.body k) then ix u.r.w k else 0) := Lib.hid rfl
      have hw1 := HWS.out.2.1 k (by omega)
      clear hcb hcw hbw
      cases hi : intB u.S (ix u.r.body k) with
      | true =>
        rw [hi] at HIN HST
        have HS2 : Hid (wgt u g (k + 1) = wgt u g k) := Lib.hid (by rw [HST.out]; simp)
        go_wp2_with (go_at_call 127; (with_reducible refine (HIN.out).mono ?_); rintro e w1 ⟨rfl, hb1⟩; have HB1 := Lib.hid (bon HBX.out hb1); clear hb1)
        first
          | (go_roundw
             case rel => (exact ⟨k + 1, by omega, by go_num, by rw [HS2.out], HB1.out⟩)
             case measure => (simp [intOf]; omega))
          | (refine ⟨?_, ?_⟩
             · (exact ⟨k + 1, by omega, by go_num, by rw [HS2.out], HB1.out⟩)
             · (simp [intOf]; omega))
      | false =>
        rw [hi] at HIN HST
        cases hgl : g (ix u.r.body k) with
        | false =>
          rw [hgl] at HST
          have HS2 : Hid (wgt u g (k + 1) = wgt u g k) := Lib.hid (by rw [HST.out]; simp)
          go_wp2_with (first | (go_at_call 165; (with_reducible refine (HG.out _ (bon HBW.out hb1) _ hl.1 hl.2).mono ?_); rintro e w2 ⟨e2, hb2⟩; rw [hgl] at e2; subst e2; have HB2 := Lib.hid (bon (bon HBX.out hb1) hb2)) | (go_at_call 127; (with_reducible refine (HIN.out).mono ?_); rintro e w1 ⟨rfl, hb1⟩; have kx1 := fun o => (bcell (bon HBX.out hb1) _ o HBK.out.lt).trans (HBK.out.cell o); have hz1 := hb1.size))
          first
            | (go_roundw
               case rel => (exact ⟨k + 1, by omega, by go_num, by rw [HS2.out], HB2.out⟩)
               case measure => (simp [intOf]; omega))
            | (refine ⟨?_, ?_⟩
               · (exact ⟨k + 1, by omega, by go_num, by rw [HS2.out], HB2.out⟩)
               · (simp [intOf]; omega))
        | true =>
          rw [hgl] at HST
          have HS2 : Hid (wgt u g (k + 1) = wgt u g k + ix u.r.w k) := Lib.hid (by rw [HST.out]; simp)
          have hs2 : wgt u g k + ix u.r.w k ≤ 1048576 := by rw [HS2.out] at hle2; omega
          go_wp2_with (first | (go_at_call 165; (with_reducible refine (HG.out _ (bon HBW.out hb1) _ hl.1 hl.2).mono ?_); rintro e w2 ⟨e2, hb2⟩; rw [hgl] at e2; subst e2; have HB2 := Lib.hid (bon (bon HBX.out hb1) hb2); have kw2 := (bcell (bon (bon HBW.out hb1) hb2) _ _ hbw2).trans hcw0; have kx2 := fun o => (bcell (bon (bon HBX.out hb1) hb2) _ o HBK.out.lt).trans (HBK.out.cell o); have hz2 := hb2.size) | (go_at_call 127; (with_reducible refine (HIN.out).mono ?_); rintro e w1 ⟨rfl, hb1⟩; have kx1 := fun o => (bcell (bon HBX.out hb1) _ o HBK.out.lt).trans (HBK.out.cell o); have hz1 := hb1.size))
          first
            | (go_roundw
               case rel => (exact ⟨k + 1, by omega, by go_num, by rw [HS2.out], HB2.out⟩)
               case measure => (simp [intOf]; omega))
            | (refine ⟨?_, ?_⟩
               · (exact ⟨k + 1, by omega, by go_num, by rw [HS2.out], HB2.out⟩)
               · (simp [intOf]; omega))
    · obtain rfl : k = u.r.body.length := by omega
      go_wp2_with fail
      go_ret
      exact ⟨rfl, HAL.out.trans (HBX.out.mono (by omega))⟩
theorem blk_setCells {g : Nat} {t : TypeId} : ∀ (vs : List Value) (o : Nat) (D : List Value) (w : World), Blk w g D t → ∃ D', Blk (w.setCells g o vs) g D' t ∧ D'.length = D.length ∧ ∀ k, k < o → D'[k]? = D[k]?
  | [], _, D, _, h => ⟨D, h, rfl, fun _ _ => rfl⟩
  | v :: vs, o, D, w, h => by
    obtain ⟨D', h1, h2, h3⟩ := blk_setCells vs (o + 1) (D.set o v) (w.setCell ⟨g, o, none⟩ v) (h.set o v)
    refine ⟨D', h1, by simpa using h2, fun k hk => ?_⟩
    rw [h3 k (by omega), List.getElem?_set_ne (by omega)]
theorem lim_setCells {n g : Nat} {S : List Nat} {w0 : World} (hg : g ∈ S) : ∀ (vs : List Value) (o : Nat) (w : World), Lim n S w0 w → Lim n S w0 (w.setCells g o vs)
  | [], _, _, h => h
  | v :: vs, o, _, h => lim_setCells hg vs (o + 1) _ (h.trans (.setCell v (.inl hg)))
theorem keepF_none {q : Int → Bool} {l : List Int} : ∀ j, j ≤ l.length → (∀ k, k < j → q (ix l k) = false) → keepF q l j = l.take j
  | 0, _, _ => by simp [keepF]
  | j + 1, hj, h => by
    rw [keepF_succ (by omega), h j (by omega), keepF_none j (by omega) (fun k hk => h k (by omega)), take_ix l j (by omega)]
    rfl
theorem fits_of {l : List Int} (h : ∀ x ∈ l, InI x) : Fits l := fun i => by
  by_cases hi : i < l.length
  · exact h _ (ix_mem hi)
  · have : ix l i = 0 := by unfold ix; rw [List.getD_eq_getElem?_getD, List.getElem?_eq_none (by omega)]; rfl
    rw [this]; omega
def DelRel (w : World) (g : Nat) (q : Int → Bool) (l : List Int) (N : Nat) (i j : Value) (wx : World) : Prop :=
  ∃ jj : Nat, jj ≤ l.length ∧ j = .int .i64 jj ∧ i = .int .i64 (keepF q l jj).length ∧ (keepF q l jj).length < jj ∧ DelSt w g q l N jj wx
set_option maxHeartbeats 1000000 in
theorem idx_oth (v : Value) (l : List Int) (w : World) (h : Ints w v l) (g : Nat → Bool) (cap : Value)
    (hg : ∀ w', Below w.heap.size w w' → ∀ j, j < l.length → Calls Tryz.prog 166 #[.int .i64 (ix l j), cap] w' fun e w'' => e = .returned (.bool (g j)) ∧ Below w'.heap.size w' w'') :
    Calls Tryz.prog 83 #[v, .func (.func 166) #[] #[cap]] w fun e w' => ∃ r, e = .returned (.int .i64 r) ∧ IxP l.length g r ∧ Below w.heap.size w w' := by
  obtain ⟨a1, c1, rfl, -, hl1, -, hcell⟩ := h.form
  have HG := Lib.hid hg
  clear h hg
  go_enter Tryz.func83, Tryz.ntmps83
  go_wp2
  go_loopw [8] (fun i wx => IxR l.length g w i wx) (fun i _ => l.length - (intOf i).toNat)
  case atStart => exact ⟨0, by omega, rfl, fun j hj => absurd hj (Nat.not_lt_zero _), Below.refl _ _⟩
  case round =>
    obtain ⟨k, hk, rfl, hall, hb⟩ := hrel
    have HA := Lib.hid hall
    clear hall
    by_cases hlt : k < l.length
    · obtain ⟨b, off, rfl, hbl, hc⟩ := hcell (by omega)
      have hk1 := (bcell hb _ _ hbl).trans (hc k hlt)
      clear hc hcell
      cases g1 : g k with
      | true =>
        have HK : Hid (_ = true) := Lib.hid g1
        have HC := Lib.hid (HG.out _ hb k hlt)
        rw [g1] at HC
        clear g1
        go_wp2_with (go_at_call 166; refine (HC.out).mono ?_; rintro e w1 ⟨rfl, hb1⟩)
        go_ret
        exact ⟨_, rfl, .inr ⟨k, hlt, rfl, HK.out, HA.out⟩, bon hb hb1⟩
      | false =>
        have HN := Lib.hid (lt_succ_all HA.out g1)
        have HC := Lib.hid (HG.out _ hb k hlt)
        rw [g1] at HC
        clear g1
        go_wp2_with (go_at_call 166; refine (HC.out).mono ?_; rintro e w1 ⟨rfl, hb1⟩)
        first
          | (go_roundw
             case rel => (exact ⟨k + 1, by omega, by go_num, HN.out, bon hb hb1⟩)
             case measure => (simp [intOf]; omega))
          | (refine ⟨?_, ?_⟩
             · (exact ⟨k + 1, by omega, by go_num, HN.out, bon hb hb1⟩)
             · (simp [intOf]; omega))
    · have HN : Hid (∀ j, j < l.length → g j = false) := Lib.hid (fun j hj => HA.out j (by omega))
      go_wp2
      go_ret
      exact ⟨_, rfl, .inl ⟨rfl, HN.out⟩, hb⟩
set_option maxHeartbeats 1000000 in
theorem oth1_any (u : SU) (b : Nat) (x : Int) (w : World) (h : SupB w b u) :
    Calls Tryz.prog 166 #[.int .i64 x, .pointer (some ⟨b, 0, none⟩)] w fun e w' => e = .returned (.bool (decide (x ∈ u.S))) ∧ w = w' := by
  obtain ⟨vh, vb, vw, vs, h0, h1, h2, h3⟩ := h
  obtain ⟨a4, c4, rfl, -, hl4, -, -⟩ := h2.form
  have k7 := h0.cell 7
  have HS := Lib.hid h2
  clear h0 h1 h2 h3
  go_enter Tryz.func166, Tryz.ntmps166
  go_wp2_with (go_at_call 55; (with_reducible refine (contains_any _ _ x _ HS.out).mono ?_); rintro e w1 ⟨rfl, rfl⟩)
  go_ret
  exact ⟨rfl, rfl⟩
set_option maxHeartbeats 4000000 in
set_option maxRecDepth 100000 in
theorem delf_oth (l : List Int) (g c base : Nat) (D : List Value) (w : World) (hb : Blk w g D 3) (hcell : ∀ k, k < l.length → D[k]? = some (.int .i64 (ix l k))) (hfit : Fits l) (hn : l.length ≤ c ∧ c ≤ D.length ∧ c ≤ maxLen) (hbase : base ≤ g) (hl8 : l.length * 8 ≤ 140737488351232)
    (q : Int → Bool) (cap : Value) (hq : ∀ w', Lim w.heap.size [g] w w' → ∀ x, Calls Tryz.prog 166 #[.int .i64 x, cap] w' fun e w'' => e = .returned (.bool (q x)) ∧ w' = w'') :
    Calls Tryz.prog 125 #[.slice (some ⟨g, 0, none⟩) l.length c, .func (.func 166) #[] #[cap]] w fun e w' => ∃ a n c', e = .returned (.slice a n c') ∧ QRow base w' (.slice a n c') (keepF q l l.length) ∧ Lim w.heap.size [g] w w' := by
  have hint : Ints w (.slice (some ⟨g, 0, none⟩) l.length c) l := ⟨⟨_, _, rfl, hn.1, hn.2.2, hl8, fun _ => ⟨g, 0, rfl, hb.lt, fun i hi => by rw [Nat.zero_add, hb.cell]; exact hcell i hi⟩⟩, hfit⟩
  have HI := Lib.hid (idx_oth _ l w hint (fun j => q (ix l j)) cap (fun w' hb' j _ => (hq w' (.of_below hb' (Nat.le_refl _)) _).mono fun e w'' ⟨h1, h2⟩ => ⟨h1, h2 ▸ Below.refl _ _⟩))
  have HQ := Lib.hid hq
  have HB := Lib.hid hb
  have HC := Lib.hid hcell
  have HFT := Lib.hid hfit
  have hglt := hb.lt
  clear hint hq hb hcell hfit
  go_enter Tryz.func125, Tryz.ntmps125
  go_upto_region 2 with (go_at_call 83; (with_reducible refine (HI.out).mono ?_); rintro e w1 ⟨r, rfl, hr, hb1⟩; have HR := Lib.hid hr; have HB1 := Lib.hid hb1; clear hr hb1)
  rcases HR.out with ⟨rfl, hnone⟩ | ⟨i0, hi0, rfl, hq0, hbef⟩
  · have HK : Hid (keepF q l l.length = l) := Lib.hid (by rw [keepF_none _ (Nat.le_refl _) hnone, List.take_length])
    clear hnone
    go_wp2_with fail
    go_ret
    refine ⟨_, _, _, rfl, ⟨by rw [HK.out]; exact HFT.out, .inr ⟨g, 0, c, D.toArray, by rw [HK.out], hbase, HB.out.below HB1.out, by rw [HK.out]; exact hn.1, hn.2.2, by simp; exact hn.2.1, fun i hi => by rw [HK.out] at hi ⊢; rw [Nat.zero_add, List.getElem?_toArray]; exact HC.out i hi⟩⟩, .of_below HB1.out (Nat.le_refl _)⟩
  · have hk0 : keepF q l i0 = l.take i0 := keepF_none i0 (by omega) hbef
    have hk1 : keepF q l (i0 + 1) = l.take i0 := by rw [keepF_succ hi0, if_pos (show q (ix l i0) = true from hq0)]; exact hk0
    have hst : DelSt w g q l D.length (i0 + 1) w1 := ⟨D, rfl, HB.out.below HB1.out, fun k hk => by
      rw [hk1] at hk ⊢
      simp only [List.length_take] at hk
      rw [HC.out k (by omega)]
      congr 2
      simp [ix, show k < i0 by omega], fun k _ hk => HC.out k hk, .of_below HB1.out (Nat.le_refl _)⟩
    have HST := Lib.hid hst
    have HLE : Hid ((keepF q l (i0 + 1)).length = i0) := Lib.hid (by rw [hk1, List.length_take]; omega)
    clear hst hk0 hk1 hq0 hbef HR HI
    have hi0m : ((i0 : Int) == -1) = false := by simp
    have hlen63 : l.length ≤ 1000000000000000 := by omega
    go_upto_region 5 with fail
    go_loopw [5, 6] (fun i j wx => DelRel w g q l D.length i j wx) (fun _ j _ => l.length - (intOf j).toNat)
    case atStart => exact ⟨i0 + 1, by omega, by go_num, by rw [HLE.out], by rw [HLE.out]; omega, HST.out⟩
    case round =>
      obtain ⟨jj, hjj, rfl, rfl, hlt0, hst⟩ := hrel
      have HS := Lib.hid hst
      obtain ⟨D1, hd1, hd2, hd3, hd4, hd5⟩ := hst
      have hN : l.length ≤ D.length := by omega
      by_cases hltj : jj < l.length
      · have kv := (hd2.cell jj).trans (hd4 jj (Nat.le_refl _) hltj)
        have hil : (keepF q l jj).length < D1.length := by omega
        have ks : wr.cell? ⟨g, (keepF q l jj).length, none⟩ = some (D1[(keepF q l jj).length]) := (hd2.cell _).trans (List.getElem?_eq_getElem hil)
        have fs := hd2.free (keepF q l jj).length
        have HCL := Lib.hid (HQ.out wr hd5 (ix l jj))
        have HSUC := Lib.hid (keepF_succ (q := q) hltj)
        clear hd2 hd3 hd4 hd5
        cases hqv : q (ix l jj) with
        | true =>
          rw [hqv] at HCL HSUC
          have HSU2 : Hid (keepF q l (jj + 1) = keepF q l jj) := Lib.hid (by rw [HSUC.out]; rfl)
          have HNX := Lib.hid (HS.out.drop hltj hqv)
          go_wp2_with (go_at_call 166; (with_reducible refine (HCL.out).mono ?_); rintro e w2 ⟨rfl, rfl⟩)
          first
            | (go_roundw
               case rel => (exact ⟨jj + 1, by omega, by go_num, by rw [HSU2.out], by rw [HSU2.out]; omega, HNX.out⟩)
               case measure => (simp [intOf]; omega))
            | (refine ⟨?_, ?_⟩
               · (exact ⟨jj + 1, by omega, by go_num, by rw [HSU2.out], by rw [HSU2.out]; omega, HNX.out⟩)
               · (simp [intOf]; omega))
        | false =>
          rw [hqv] at HCL HSUC
          have HSU2 : Hid ((keepF q l (jj + 1)).length = (keepF q l jj).length + 1) := Lib.hid (by rw [HSUC.out]; simp)
          have HNX := Lib.hid (HS.out.keep hltj hN hqv)
          go_wp2_with (go_at_call 166; (with_reducible refine (HCL.out).mono ?_); rintro e w2 ⟨rfl, rfl⟩)
          first
            | (go_roundw
               case rel => (exact ⟨jj + 1, by omega, by go_num, by rw [HSU2.out]; go_num, by rw [HSU2.out]; omega, HNX.out⟩)
               case measure => (simp [intOf]; omega))
            | (refine ⟨?_, ?_⟩
               · (exact ⟨jj + 1, by omega, by go_num, by rw [HSU2.out]; go_num, by rw [HSU2.out]; omega, HNX.out⟩)
               · (simp [intOf]; omega))
      · obtain rfl : jj = l.length := by omega
        obtain ⟨fi, hfi⟩ : ∃ fi, fi = (keepF q l l.length).length := ⟨_, rfl⟩
        have HFI := Lib.hid hfi
        rw [← hfi] at hlt0 ⊢
        have hcl : ∀ ty c', (Builtin.clear_ #[23] ty #[.slice (some ⟨g, fi, none⟩) (l.length - fi) c']).run Tryz.prog wr = .ok (.tuple #[]) (wr.setCells g fi (List.replicate (l.length - fi) (.int .i64 0))) := fun ty c' =>
          Lib.run_clear_slice wr 23 3 ty (.int .i64 0) Tryz.underlying23 (fun w => Tryz.zeroValue3 w) rfl rfl g fi (l.length - fi) c' (by omega) (fun j hj => by rw [hd2.cell, List.getElem?_eq_getElem (by omega)]; rfl) (fun j hj => hd2.free _)
        clear hfi hd2 hd3 hd4 hd5
        go_wp2_with fail
        go_ret
        obtain ⟨D2, d1, d2, d3, -, d5⟩ := HS.out
        obtain ⟨D3, e1, e2, e3⟩ := blk_setCells (List.replicate (l.length - fi) (.int .i64 0)) fi D2 wr d2
        rw [← HFI.out] at d3
        refine ⟨_, _, _, rfl, ⟨fits_of (fun x hx => ?_), .inr ⟨g, 0, c, D3.toArray, by rw [← HFI.out], hbase, e1, by rw [← HFI.out]; omega, hn.2.2, by simp; omega, fun i hi => ?_⟩⟩, lim_setCells (by simp) _ _ _ d5⟩
        · have hm : x ∈ l := by
            unfold keepF at hx
            exact List.mem_of_mem_take (List.mem_filter.1 hx).1
          obtain ⟨k, hk, rfl⟩ := mem_ix.1 hm
          exact HFT.out k
        · rw [← HFI.out] at hi
          rw [Nat.zero_add, List.getElem?_toArray, e3 i hi]
          exact d3 i hi
set_option maxHeartbeats 1000000 in
theorem inU_any (l : Int) (ab : Nat) (a : List Int) (w : World) (h : InU w ab a) (hl : 1 ≤ l.natAbs ∧ l.natAbs ≤ 1000000) :
    Calls Tryz.prog 48 #[.int .i64 l, .pointer (some ⟨ab, 0, none⟩)] w fun e w' => e = .returned (.bool (offB a l)) ∧ w = w' := by
  obtain ⟨va, h1, h2⟩ := h
  have k0 := h1.cell 0
  obtain ⟨a9, n9, c9, rfl⟩ : ∃ a9 n9 c9, va = .slice a9 n9 c9 := by obtain ⟨⟨x, y, e, -⟩, -⟩ := h2; exact ⟨_, _, _, e⟩
  have HA := Lib.hid h2
  have hl0 : l ≠ 0 := by omega
  have hl1 : -4611686018427387904 ≤ l ∧ l ≤ 4611686018427387904 := by omega
  have HL0 := Lib.hid hl0
  have HL1 := Lib.hid hl1
  clear h1 h2 hl0 hl1
  cases ho : offB a l with
  | true =>
    have HO := Lib.hid ho
    clear ho
    go_enter Tryz.func48, Tryz.ntmps48
    go_wp2_with (go_at_call 49; (with_reducible refine (lvalue_off _ a _ HA.out l HL0.out HL1.out HO.out).mono ?_); rintro e w1 ⟨rfl, rfl⟩)
    go_ret
    exact ⟨rfl, rfl⟩
  | false =>
    have HO := Lib.hid ho
    clear ho
    go_enter Tryz.func48, Tryz.ntmps48
    go_wp2_with (go_at_call 49; (with_reducible refine (lvalue_on _ a _ HA.out l HL0.out HL1.out HO.out).mono ?_); rintro e w1 ⟨r, hr, rfl, rfl⟩)
    go_ret
    exact ⟨ret_bool (decide_eq_false (by omega)), rfl⟩
set_option maxHeartbeats 1000000 in
theorem delf_nil (cap : Value) (w : World) :
    Calls Tryz.prog 125 #[.slice none 0 0, .func (.func 166) #[] #[cap]] w fun e w' => e = .returned (.slice none 0 0) ∧ Below w.heap.size w w' := by
  have hint : Ints w (.slice none 0 0) [] := nil_ints w
  have HI := Lib.hid (idx_oth _ [] w hint (fun _ => false) cap (fun w' hb' j hj => absurd hj (Nat.not_lt_zero _)))
  clear hint
  go_enter Tryz.func125, Tryz.ntmps125
  go_upto_region 2 with (go_at_call 83; (with_reducible refine (HI.out).mono ?_); rintro e w1 ⟨r, rfl, hr, hb1⟩; have HR := Lib.hid hr; have HB1 := Lib.hid hb1; clear hr hb1)
  rcases HR.out with ⟨rfl, -⟩ | ⟨i0, hi0, -⟩
  · go_wp2_with fail
    go_ret
    exact ⟨rfl, HB1.out⟩
  · exact absurd hi0 (Nat.not_lt_zero _)
theorem delf_row {base : Nat} {w : World} {v : Value} {l : List Int} (h : OwnI base w v l) (hbase : base ≤ w.heap.size) (q : Int → Bool) (cap : Value) (hq : ∀ w', Below base w w' → ∀ x, Calls Tryz.prog 166 #[.int .i64 x, cap] w' fun e w'' => e = .returned (.bool (q x)) ∧ w' = w'') :
    Calls Tryz.prog 125 #[v, .func (.func 166) #[] #[cap]] w fun e w' => ∃ a n c', e = .returned (.slice a n c') ∧ QRow base w' (.slice a n c') (keepF q l l.length) ∧ Below base w w' := by
  obtain ⟨⟨hrow, h8⟩, hfit⟩ := h
  rcases hrow.2 with ⟨rfl, h0⟩ | ⟨g, c, cur, rfl, hb, hg, hn, hm, hs, hx⟩
  · have : l = [] := List.eq_nil_of_length_eq_zero h0
    subst this
    refine (delf_nil cap w).mono fun e w' ⟨he, hb⟩ => ⟨none, 0, 0, he, QRow.nil _ _, hb.mono hbase⟩
  · refine (delf_oth l g c base cur.toList w (by unfold Blk; simpa using hg) (fun k hk => ?_) hfit ⟨hn, by simp; omega, hm⟩ hb h8 q cap (fun w' hl x => hq w' ((hl.mono hbase (fun i hi _ => hi)).below (fun i hi => by simp only [List.mem_singleton] at hi; omega)) x)).mono fun e w' ⟨a, n, c', he, hr, hl⟩ => ⟨a, n, c', he, hr, (hl.mono hbase (fun i hi _ => hi)).below (fun i hi => by simp only [List.mem_singleton] at hi; omega)⟩
    have h4 : (cur.toList.take (l.length * 1))[k]? = some (.int .i64 (ix l k)) := by rw [hx]; simp [hk]
    rw [List.getElem?_take_of_lt (by omega)] at h4
    exact h4
set_option maxHeartbeats 4000000 in
set_option maxRecDepth 100000 in
theorem others_any (v : Value) (u : SU) (w : World) (h : SupIs w v u) :
    Calls Tryz.prog 123 #[v] w fun e w' => ∃ a n c, e = .returned (.slice a n c) ∧ QRow w.heap.size w' (.slice a n c) (oth u) ∧ Below w.heap.size w w' := by
  obtain ⟨vh, vb, vw, vs, rfl, hsl, hS, hb⟩ := h
  have hal := bal (Below.refl w.heap.size w) (.cells #[.bool u.r.choice, vh, .bool u.r.sum, .int .i64 u.r.bound, vb, vw, .int .i64 u.b, vs] 128)
  obtain ⟨a1, c1, rfl, -, hl1, -, -⟩ := hsl.head.form
  obtain ⟨a2, c2, rfl, -, hl2, -, -⟩ := hsl.body.form
  obtain ⟨a3, c3, rfl, -, hl3, -, -⟩ := hsl.wts.form
  obtain ⟨a4, c4, rfl, -, hl4, -, -⟩ := hS.form
  have HBK := Lib.hid (Blk.new w [.bool u.r.choice, .slice a1 u.r.head.length c1, .bool u.r.sum, .int .i64 u.r.bound, .slice a2 u.r.body.length c2, .slice a3 u.r.w.length c3, .int .i64 u.b, .slice a4 u.S.length c4] 128)
  have HSL := Lib.hid hsl
  have HS := Lib.hid hS
  have HAL := Lib.hid hal
  clear hsl hS hal
  cases hch : u.r.choice with
  | true =>
    have HF : Hid (oth u = []) := Lib.hid (by unfold oth; rw [hch]; rfl)
    rw [hch] at HAL
    clear HBK
    go_enter Tryz.func123, Tryz.ntmps123
    go_wp2
    go_ret
    exact ⟨_, _, _, rfl, by rw [HF.out]; exact QRow.nil _ _, HAL.out⟩
  | false =>
    have HF : Hid (oth u = keepF (fun x => decide (x ∈ u.S)) u.r.head u.r.head.length) := Lib.hid (by unfold oth; rw [hch]; rfl)
    rw [hch] at HAL HBK
    have HH0 := Lib.hid (HSL.out.head.below HAL.out)
    go_enter Tryz.func123, Tryz.ntmps123
    go_upto_region 3 with fail
    have kx := HBK.out.cell
    generalize w.alloc (.cells #[.bool false, .slice a1 u.r.head.length c1, .bool u.r.sum, .int .i64 u.r.bound, .slice a2 u.r.body.length c2, .slice a3 u.r.w.length c3, .int .i64 u.b, .slice a4 u.S.length c4] 128) = W0 at *
    have hz0 : w.heap.size < W0.heap.size := HBK.out.lt
    have HSB : Hid (∀ w', Below W0.heap.size W0 w' → SupB w' w.heap.size u) := Lib.hid (fun w' hb' => ⟨_, _, _, _, by rw [hch]; exact HBK.out.below hb', HSL.out.below (HAL.out.trans (hb'.mono (by omega))), HS.out.below (HAL.out.trans (hb'.mono (by omega))), hb⟩)
    go_wp2_with (first
      | (go_at_call 125; (with_reducible refine (delf_row HOW.out hz1 (fun x => decide (x ∈ u.S)) _ (fun w' hb' x => oth1_any u _ x w' (HSB.out w' (HB1.out.trans hb')))).mono ?_); rintro e w2 ⟨a5, n5, c5, rfl, hq5, hb5⟩; have HQ5 := Lib.hid hq5; have HB5 := Lib.hid hb5; clear hq5 hb5)
      | (go_at_call 37; (with_reducible refine (cloneI_any _ u.r.head W0 HH0.out).mono ?_); rintro e w1 ⟨v1, rfl, ho1, hb1⟩; have HOW := Lib.hid ho1; have HB1 := Lib.hid hb1; have hz1 := hb1.size; have kx1 := fun o => (bcell hb1 _ o HBK.out.lt).trans (HBK.out.cell o); clear ho1 hb1))
    go_ret
    exact ⟨_, _, _, rfl, by rw [HF.out]; exact HQ5.out.mono (by omega), HAL.out.trans ((HB1.out.trans HB5.out).mono (by omega))⟩
theorem imp1_any (w : World) (l : Int) : Calls Tryz.prog 165 #[.int .i64 l] w fun e w' => e = .returned (.bool true) ∧ w = w' := by
  go_enter Tryz.func165, Tryz.ntmps165
  go_wp2
  go_ret
  exact ⟨rfl, rfl⟩
set_option maxHeartbeats 1000000 in
theorem idx_int (v : Value) (l : List Int) (w : World) (h : Ints w v l) (g : Nat → Bool) (fst : Value)
    (hg : ∀ w', Below w.heap.size w w' → ∀ j, j < l.length → Calls Tryz.prog 127 #[fst, .int .i64 (ix l j)] w' fun e w'' => e = .returned (.bool (g j)) ∧ Below w'.heap.size w' w'') :
    Calls Tryz.prog 83 #[v, .func (.func 127) #[fst] #[]] w fun e w' => ∃ r, e = .returned (.int .i64 r) ∧ IxP l.length g r ∧ Below w.heap.size w w' := by
  obtain ⟨a1, c1, rfl, -, hl1, -, hcell⟩ := h.form
  have HG := Lib.hid hg
  clear h hg
  go_enter Tryz.func83, Tryz.ntmps83
  go_wp2
  go_loopw [8] (fun i wx => IxR l.length g w i wx) (fun i _ => l.length - (intOf i).toNat)
  case atStart => exact ⟨0, by omega, rfl, fun j hj => absurd hj (Nat.not_lt_zero _), Below.refl _ _⟩
  case round =>
    obtain ⟨k, hk, rfl, hall, hb⟩ := hrel
    have HA := Lib.hid hall
    clear hall
    by_cases hlt : k < l.length
    · obtain ⟨b, off, rfl, hbl, hc⟩ := hcell (by omega)
      have hk1 := (bcell hb _ _ hbl).trans (hc k hlt)
      clear hc hcell
      cases g1 : g k with
      | true =>
        have HK : Hid (_ = true) := Lib.hid g1
        have HC := Lib.hid (HG.out _ hb k hlt)
        rw [g1] at HC
        clear g1
        go_wp2_with (go_at_call 127; refine (HC.out).mono ?_; rintro e w1 ⟨rfl, hb1⟩)
        go_ret
        exact ⟨_, rfl, .inr ⟨k, hlt, rfl, HK.out, HA.out⟩, bon hb hb1⟩
      | false =>
        have HN := Lib.hid (lt_succ_all HA.out g1)
        have HC := Lib.hid (HG.out _ hb k hlt)
        rw [g1] at HC
        clear g1
        go_wp2_with (go_at_call 127; refine (HC.out).mono ?_; rintro e w1 ⟨rfl, hb1⟩)
        first
          | (go_roundw
             case rel => (exact ⟨k + 1, by omega, by go_num, HN.out, bon hb hb1⟩)
             case measure => (simp [intOf]; omega))
          | (refine ⟨?_, ?_⟩
             · (exact ⟨k + 1, by omega, by go_num, HN.out, bon hb hb1⟩)
             · (simp [intOf]; omega))
    · have HN : Hid (∀ j, j < l.length → g j = false) := Lib.hid (fun j hj => HA.out j (by omega))
      go_wp2
      go_ret
      exact ⟨_, rfl, .inl ⟨rfl, HN.out⟩, hb⟩
set_option maxHeartbeats 1000000 in
theorem ctn_int (v : Value) (l : List Int) (w : World) (h : Ints w v l) (g : Nat → Bool) (fst : Value)
    (hg : ∀ w', Below w.heap.size w w' → ∀ j, j < l.length → Calls Tryz.prog 127 #[fst, .int .i64 (ix l j)] w' fun e w'' => e = .returned (.bool (g j)) ∧ Below w'.heap.size w' w'') :
    Calls Tryz.prog 42 #[v, .func (.func 127) #[fst] #[]] w fun e w' => e = .returned (.bool (anyR l.length g)) ∧ Below w.heap.size w w' := by
  have HI := Lib.hid (idx_int v l w h g fst hg)
  obtain ⟨a1, c1, rfl, -⟩ := h.form
  clear h hg
  go_enter Tryz.func42, Tryz.ntmps42
  go_wp2_with (go_at_call 83; refine (HI.out).mono ?_; rintro e w1 ⟨r, rfl, hr, hb1⟩; have HR := Lib.hid hr; clear hr)
  go_ret
  exact ⟨ret_bool HR.out.any, hb1⟩
set_option maxHeartbeats 4000000 in
set_option maxRecDepth 100000 in
theorem impossible_any (v : Value) (u : SU) (w : World) (h : SupIs w v u) (hok : SUok u) :
    Calls Tryz.prog 122 #[v] w fun e w' => e = .returned (.bool (impB u)) ∧ Below w.heap.size w w' := by
  have h0 := h
  obtain ⟨vh, vb, vw, vs, rfl, hsl, hS, hb⟩ := h
  have hal := bal (Below.refl w.heap.size w) (.cells #[.bool u.r.choice, vh, .bool u.r.sum, .int .i64 u.r.bound, vb, vw, .int .i64 u.b, vs] 128)
  obtain ⟨a1, c1, rfl, -, hl1, -, -⟩ := hsl.head.form
  obtain ⟨a2, c2, rfl, -, hl2, -, -⟩ := hsl.body.form
  obtain ⟨a3, c3, rfl, -, hl3, -, -⟩ := hsl.wts.form
  obtain ⟨a4, c4, rfl, -, hl4, -, -⟩ := hS.form
  have HBK := Lib.hid (Blk.new w [.bool u.r.choice, .slice a1 u.r.head.length c1, .bool u.r.sum, .int .i64 u.r.bound, .slice a2 u.r.body.length c2, .slice a3 u.r.w.length c3, .int .i64 u.b, .slice a4 u.S.length c4] 128)
  have HB0 := Lib.hid (hsl.body.below hal)
  have H0 := Lib.hid (h0.below hal)
  have HAL := Lib.hid hal
  have HOK := Lib.hid hok
  have hbd := hok.bound
  clear hsl hS hal h0 hok
  cases hs : u.r.sum with
  | true =>
    have HF : Hid (impB u = decide (wgt u (fun _ => true) u.r.body.length < u.r.bound)) := Lib.hid (by unfold impB; rw [hs]; rfl)
    have HSM := Lib.hid hs
    have hwl := wgt_le HOK.out HSM.out (fun _ => true) u.r.body.length (Nat.le_refl _)
    have hsm := (HOK.out.wts HSM.out).2.2 u.r.body.length (by have := (HOK.out.wts HSM.out).1; omega)
    rw [hs] at HAL HBK H0 HB0
    clear hs
    go_enter Tryz.func122, Tryz.ntmps122
    go_upto_region 2 with fail
    generalize w.alloc (.cells #[.bool u.r.choice, .slice a1 u.r.head.length c1, .bool true, .int .i64 u.r.bound, .slice a2 u.r.body.length c2, .slice a3 u.r.w.length c3, .int .i64 u.b, .slice a4 u.S.length c4] 128) = W0 at *
    have kx : ∀ e : Ext W0, ∀ o, e.world.cell? ⟨w.heap.size, o, none⟩ = [Value.bool u.r.choice, .slice a1 u.r.head.length c1, .bool true, .int .i64 u.r.bound, .slice a2 u.r.body.length c2, .slice a3 u.r.w.length c3, .int .i64 u.b, .slice a4 u.S.length c4][o]? := fun e o => (bcell e.below _ o HBK.out.lt).trans (HBK.out.cell o)
    have HW : Hid (∀ e : Ext W0, Calls Tryz.prog 133 #[.agg #[.bool u.r.choice, .slice a1 u.r.head.length c1, .bool true, .int .i64 u.r.bound, .slice a2 u.r.body.length c2, .slice a3 u.r.w.length c3, .int .i64 u.b, .slice a4 u.S.length c4], .func (.func 165) #[] #[]] e.world fun e2 w' => e2 = .returned (.int .i64 (wgt u (fun _ => true) u.r.body.length)) ∧ Below e.world.heap.size e.world w') := Lib.hid (fun e => wgt_imp1 _ u _ (H0.out.below e.below) HOK.out HSM.out (fun _ => true) (fun w' _ l _ _ => (imp1_any w' l).mono fun e w'' ⟨e1, e2⟩ => ⟨e1, e2 ▸ Below.refl _ _⟩))
    have hzW : w.heap.size < W0.heap.size := HBK.out.lt
    refine wp_region_ext (by kernel_rfl) (by kernel_rfl) ?_
    repeat (go_big_quiet_step ((go_at_call 133; exact Calls.ext_of (HW.out _))))
    refine wpQuiet_nil ?_
    intro w9 hw'
    obtain ⟨e9, he9⟩ := hw'
    have hb9 := e9.below
    rw [← he9] at hb9
    clear he9 e9
    try dsimp only
    go_wp2
    go_ret
    exact ⟨ret_bool HF.out.symm, HAL.out.trans (hb9.mono (by omega))⟩
  | false =>
    have HF : Hid (impB u = anyR u.r.body.length (fun j => intB u.S (ix u.r.body j))) := Lib.hid (by unfold impB; rw [hs]; rfl)
    rw [hs] at HAL HBK H0 HB0
    clear hs
    go_enter Tryz.func122, Tryz.ntmps122
    go_upto_region 3 with fail
    have kx := HBK.out.cell
    generalize w.alloc (.cells #[.bool u.r.choice, .slice a1 u.r.head.length c1, .bool false, .int .i64 u.r.bound, .slice a2 u.r.body.length c2, .slice a3 u.r.w.length c3, .int .i64 u.b, .slice a4 u.S.length c4] 128) = W0 at *
    have hzW : w.heap.size < W0.heap.size := HBK.out.lt
    go_wp2_with (go_at_call 42; (with_reducible refine (ctn_int _ u.r.body W0 HB0.out (fun j => intB u.S (ix u.r.body j)) _ (fun w' hb' j _ => internal_any _ u _ w' (H0.out.below hb'))).mono ?_); rintro e w2 ⟨rfl, hb2⟩; have HB2 := Lib.hid hb2; clear hb2)
    go_ret
    exact ⟨ret_bool HF.out.symm, HAL.out.trans (HB2.out.mono (by omega))⟩
end Go.Proofs.YtjodocheiejkeaaGreatDoor
