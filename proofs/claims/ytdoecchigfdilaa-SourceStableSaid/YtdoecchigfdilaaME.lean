/- My texts Lp1, Lp2, Lp3, Lp4, Lp5, Lp6, Lp7, Lp8, Lp9, Lp10, Lp11, Sub, AppR, merged. -/
import Derived.Test.YtdoecchigfdilaaMD
import Derived.Test.YtdoecchigfdilaaMC
import Derived.Test.YtdoecchigfdilaaMB
import Derived.Deep.DeepCutAuto
import Derived.RangeFuncNested
import Derived.RangeFuncBound
import Derived.RangeFuncCalls
import Derived.RangeFuncLeaves
import Derived.WalkKit
import Derived.OwnWalkIn
import Derived.TacticsInMore
import Derived.LoopNIn
import Derived.LoopIn
import Derived.Stop.RegionWithIn
import Derived.Shelf.Abstract
import Derived.Deep.AppendSrc

/- loops: the small functions: slices.Contains, isSet, value, internal. -/
namespace Go.Proofs.Ytdoecchigfdilaa
open Go.RowKit


theorem mem_ix {l : List Int} {x : Int} : x ∈ l ↔ ∃ k, k < l.length ∧ ix l k = x := by
  constructor
  · intro h
    obtain ⟨k, hk, e⟩ := List.mem_iff_getElem.1 h
    exact ⟨k, hk, by simp [ix, List.getD_eq_getElem?_getD, List.getElem?_eq_getElem hk, e]⟩
  · rintro ⟨k, hk, rfl⟩; exact ix_mem hk

set_option maxHeartbeats 1000000 in
theorem index_any (v : Value) (l : List Int) (x : Int) (w : World) (h : Ints w v l) :
    Calls Try.prog 90 #[v, .int .i64 x] w fun e w' => ∃ r, e = .returned (.int .i64 r) ∧ IxP l.length (fun j => decide (ix l j = x)) r ∧ w = w' := by
  obtain ⟨a1, c1, rfl, -, hl1, -, hcell⟩ := h.form
  clear h
  go_enter Try.func90, Try.ntmps90
  go_wp2
  go_loop [8] (fun i => ∃ k : Nat, k ≤ l.length ∧ i = .int .i64 k ∧ Hid (∀ j, j < k → decide (ix l j = x) = false)) (fun i => l.length - (intOf i).toNat)
  case atStart => exact ⟨0, by omega, rfl, Lib.hid (fun j hj => absurd hj (Nat.not_lt_zero _))⟩
  case round =>
    obtain ⟨k, hk, rfl, HA⟩ := hrel
    by_cases hlt : k < l.length
    · obtain ⟨b, off, rfl, hbl, hc⟩ := hcell (by omega)
      have hk1 := hc k hlt
      clear hc hcell
      by_cases g1 : ix l k = x
      · have HK : Hid (ix l k = x) := Lib.hid g1
        have g2 : (x == ix l k) = true := by simp [g1]
        clear g1
        go_wp2
        go_ret
        exact ⟨_, rfl, .inr ⟨k, hlt, rfl, decide_eq_true HK.out, HA.out⟩, rfl⟩
      · have HN := Lib.hid (lt_succ_all HA.out (decide_eq_false g1))
        have g2 : (x == ix l k) = false := by simp; exact fun e => g1 e.symm
        clear g1
        go_wp2
        first
          | (go_round
             case rel => (exact ⟨k + 1, by omega, by go_num, HN⟩)
             case measure => (simp [intOf]; omega))
          | (refine ⟨?_, ?_⟩
             · (exact ⟨k + 1, by omega, by go_num, HN⟩)
             · (simp [intOf]; omega))
    · have HN : Hid (∀ j, j < l.length → decide (ix l j = x) = false) := Lib.hid (fun j hj => HA.out j (by omega))
      go_wp2
      go_ret
      exact ⟨_, rfl, .inl ⟨rfl, HN.out⟩, rfl⟩

theorem anyR_mem (l : List Int) (x : Int) : anyR l.length (fun j => decide (ix l j = x)) = decide (x ∈ l) := by
  by_cases h : x ∈ l
  · obtain ⟨k, hk, e⟩ := mem_ix.1 h
    rw [decide_eq_true h, anyR_true k hk (decide_eq_true e)]
  · rw [decide_eq_false h, anyR_false (fun j hj => decide_eq_false (fun e => h (mem_ix.2 ⟨j, hj, e⟩)))]

theorem contains_any (v : Value) (l : List Int) (x : Int) (w : World) (h : Ints w v l) :
    Calls Try.prog 60 #[v, .int .i64 x] w fun e w' => e = .returned (.bool (decide (x ∈ l))) ∧ w = w' := by
  have HI := Lib.hid (index_any v l x w h)
  obtain ⟨a1, c1, rfl, -⟩ := h.form
  clear h
  go_enter Try.func60, Try.ntmps60
  go_wp2_with (go_at_call 90; refine (HI.out).mono ?_; rintro e w1 ⟨r, rfl, hr, rfl⟩; have HR := Lib.hid hr; clear hr)
  go_ret
  exact ⟨ret_bool (by rw [HR.out.any, anyR_mem]), rfl⟩

/-- A set of atoms: increasing, within 1 .. n. -/
def setTo (n : Int) (S : List Int) (k : Nat) : Bool := decide (1 ≤ ix S k ∧ ix S k ≤ n) && (k == 0 || decide (ix S (k - 1) < ix S k))
def setB' (n : Int) (S : List Int) : Bool := allR S.length (setTo n S) && decide (0 < S.length)

set_option maxHeartbeats 2000000 in
theorem isSet_any (v vs : Value) (p : GP) (S : List Int) (w : World) (h : ProgIs w v p) (hs : Ints w vs S) :
    Calls Try.prog 30 #[v, vs] w fun e w' => e = .returned (.bool (setB' p.n S)) ∧ Below w.heap.size w w' := by
  obtain ⟨vn, vsh, vr, vm, rfl, hn, -⟩ := h
  have hal := bal (Below.refl w.heap.size w) (.cells #[.int .i64 p.n, vn, vsh, vr, vm] 27)
  have hbk := Blk.new w [.int .i64 p.n, vn, vsh, vr, vm] 27
  obtain ⟨a1, c1, rfl, -, hl1, -, hcell⟩ := (hs.below hal).form
  clear hs
  unfold InI at hn
  go_enter Try.func30, Try.ntmps30
  go_upto_region 1 with fail
  have kx := hbk.cell 0
  clear hbk
  generalize w.alloc (.cells #[.int .i64 p.n, vn, vsh, vr, vm] 27) = W0 at *
  go_wp2
  go_loop [9] (fun i => ∃ k : Nat, k ≤ S.length ∧ i = .int .i64 k ∧ Hid (∀ j, j < k → setTo p.n S j = true)) (fun i => S.length - (intOf i).toNat)
  case atStart => exact ⟨0, by omega, rfl, Lib.hid (fun j hj => absurd hj (Nat.not_lt_zero _))⟩
  case round =>
    obtain ⟨k, hk, rfl, HA⟩ := hrel
    have HF : Hid (∀ k, k < S.length → setTo p.n S k = false → setB' p.n S = false) := Lib.hid (fun k hk h => by unfold setB'; rw [allR_false k hk h]; rfl)
    by_cases hlt : k < S.length
    · obtain ⟨b, off, rfl, hbl, hc⟩ := hcell (by omega)
      have hk1 := hc k hlt
      by_cases h1 : ix S k < 1
      · have HN : Hid (setTo p.n S k = false) := Lib.hid (by unfold setTo; rw [decide_eq_false (by omega)]; rfl)
        clear hc hcell
        go_wp2
        go_ret
        exact ⟨ret_bool (HF.out k hlt HN.out).symm, hal⟩
      · by_cases h2 : p.n < ix S k
        · have HN : Hid (setTo p.n S k = false) := Lib.hid (by unfold setTo; rw [decide_eq_false (by omega)]; rfl)
          clear hc hcell
          go_wp2
          go_ret
          exact ⟨ret_bool (HF.out k hlt HN.out).symm, hal⟩
        · cases k with
          | zero =>
            have hk0 : W0.cell? ⟨b, off, none⟩ = some (.int .i64 (ix S 0)) := hc 0 hlt
            clear hk1
            have HN := Lib.hid (lt_succ_all HA.out (show setTo p.n S 0 = true by unfold setTo; rw [decide_eq_true (by omega)]; rfl))
            clear hc hcell
            go_wp2
            first
              | (go_round
                 case rel => (exact ⟨0 + 1, by omega, by go_num, HN⟩)
                 case measure => (simp [intOf]; omega))
              | (refine ⟨?_, ?_⟩
                 · (exact ⟨0 + 1, by omega, by go_num, HN⟩)
                 · (simp [intOf]; omega))
          | succ k =>
            have hk0 := hc k (by omega)
            have e1 : (((k + 1 : Nat) : Int) - 1).toNat = k := by omega
            by_cases h3 : ix S k < ix S (k + 1)
            · have HN := Lib.hid (lt_succ_all HA.out (show setTo p.n S (k + 1) = true by unfold setTo; rw [decide_eq_true (by omega), Nat.add_sub_cancel, decide_eq_true h3]; simp))
              clear hc hcell
              go_wp2
              first
                | (go_round
                   case rel => (exact ⟨k + 1 + 1, by omega, by go_num, HN⟩)
                   case measure => (simp [intOf]; omega))
                | (refine ⟨?_, ?_⟩
                   · (exact ⟨k + 1 + 1, by omega, by go_num, HN⟩)
                   · (simp [intOf]; omega))
            · have HN : Hid (setTo p.n S (k + 1) = false) := Lib.hid (by unfold setTo; rw [Nat.add_sub_cancel, decide_eq_false h3]; simp)
              clear hc hcell
              go_wp2
              go_ret
              exact ⟨ret_bool (HF.out (k + 1) hlt HN.out).symm, hal⟩
    · have HN : Hid (setB' p.n S = decide (0 < S.length)) := Lib.hid (by unfold setB'; rw [allR_true (fun j hj => HA.out j (by omega)), Bool.true_and])
      go_wp2
      go_ret
      exact ⟨ret_bool HN.out.symm, hal⟩

set_option maxHeartbeats 1000000 in
theorem lvalue_off (va : Value) (a : List Int) (w : World) (h : Bytes8 w va a) (l : Int) (hl0 : l ≠ 0) (hl : -4611686018427387904 ≤ l ∧ l ≤ 4611686018427387904) (ho : offB a l = true) :
    Calls Try.prog 33 #[va, .int .i64 l] w fun e w' => e = .returned (.int .i64 (-1)) ∧ w = w' := by
  obtain ⟨⟨ad, cap, rfl, hcap, hmx, -, hc⟩, hb8⟩ := h
  have e8 : a.length < 9223372036854775808 := by unfold maxLen at hmx; omega
  obtain ⟨n, hn1, hln⟩ : ∃ n : Nat, 1 ≤ n ∧ (l = n ∨ l = -(n : Int)) := ⟨l.natAbs, by omega, by omega⟩
  have hneg : - -(n : Int) = n := by omega
  have h1 : n ≤ a.length := by
    unfold offB at ho
    simp only [Bool.and_eq_true, decide_eq_true_eq] at ho
    omega
  obtain ⟨b0, off0, rfl, hbl, hcc⟩ := hc (by omega)
  have hk : w.cell? ⟨b0, off0 + (n - 1), none⟩ = some (.int .i8 (ix a (n - 1))) := hcc (n - 1) (by omega)
  have hb := hb8 (n - 1)
  have HP := offB_pos a n hn1
  have HN := offB_neg a n
  clear hcc hc hb8
  generalize ix a (n - 1) = y at *
  rcases hln with rfl | rfl
  · rw [HP] at ho
    simp only [Bool.and_eq_true, decide_eq_true_eq] at ho
    have hy : y < 0 := by omega
    have hy0 : (y == 0) = false := by simp; omega
    have hyp : decide (0 < y) = false := decide_eq_false (by omega)
    have hnp : decide (0 < n) = true := decide_eq_true (by omega)
    clear HP HN ho
    go_enter Try.func33, Try.ntmps33
    go_wp2
    go_ret
    exact ⟨rfl, rfl⟩
  · rw [HN] at ho
    simp only [Bool.and_eq_true, decide_eq_true_eq] at ho
    have hy : 0 < y := by omega
    have hy0 : (y == 0) = false := by simp; omega
    have hyp : decide (0 < y) = true := decide_eq_true hy
    have hnp : decide ((n : Int) < 0) = false := decide_eq_false (by omega)
    clear HP HN ho
    go_enter Try.func33, Try.ntmps33
    go_wp2
    go_ret
    exact ⟨rfl, rfl⟩

set_option maxHeartbeats 1000000 in
theorem lvalue_on (va : Value) (a : List Int) (w : World) (h : Bytes8 w va a) (l : Int) (hl0 : l ≠ 0) (hl : -4611686018427387904 ≤ l ∧ l ≤ 4611686018427387904) (ho : offB a l = false) :
    Calls Try.prog 33 #[va, .int .i64 l] w fun e w' => ∃ v : Nat, v ≤ 1 ∧ e = .returned (.int .i64 v) ∧ w = w' := by
  obtain ⟨⟨ad, cap, rfl, hcap, hmx, -, hc⟩, hb8⟩ := h
  have e8 : a.length < 9223372036854775808 := by unfold maxLen at hmx; omega
  obtain ⟨n, hn1, hln⟩ : ∃ n : Nat, 1 ≤ n ∧ (l = n ∨ l = -(n : Int)) := ⟨l.natAbs, by omega, by omega⟩
  have hneg : - -(n : Int) = n := by omega
  by_cases h1 : n ≤ a.length
  · obtain ⟨b0, off0, rfl, hbl, hcc⟩ := hc (by omega)
    have hk : w.cell? ⟨b0, off0 + (n - 1), none⟩ = some (.int .i8 (ix a (n - 1))) := hcc (n - 1) (by omega)
    have hb := hb8 (n - 1)
    have HP := offB_pos a n hn1
    have HN := offB_neg a n
    clear hcc hc hb8
    generalize ix a (n - 1) = y at *
    by_cases y0 : y = 0
    · subst y0
      clear HP HN ho
      rcases hln with rfl | rfl
      · go_enter Try.func33, Try.ntmps33
        go_wp2
        go_ret
        exact ⟨0, Nat.zero_le _, rfl, rfl⟩
      · go_enter Try.func33, Try.ntmps33
        go_wp2
        go_ret
        exact ⟨0, Nat.zero_le _, rfl, rfl⟩
    · have hy0 : (y == 0) = false := by simp; omega
      rcases hln with rfl | rfl
      · rw [HP] at ho
        have hy : 0 < y := by
          refine Classical.byContradiction fun hn => ?_
          rw [decide_eq_true h1, decide_eq_true y0, decide_eq_true hn] at ho
          cases ho
        clear HP HN ho y0
        go_enter Try.func33, Try.ntmps33
        go_wp2
        go_ret
        exact ⟨1, Nat.le_refl _, rfl, rfl⟩
      · rw [HN] at ho
        have hy : y < 0 := by
          refine Classical.byContradiction fun hn => ?_
          have hy : 0 < y := by omega
          rw [decide_eq_true h1, decide_eq_true y0, decide_eq_true hy] at ho
          cases ho
        have hyp : decide (0 < y) = false := decide_eq_false (by omega)
        have hnn : decide ((n : Int) < 0) = false := decide_eq_false (by omega)
        clear HP HN ho y0
        go_enter Try.func33, Try.ntmps33
        go_wp2
        go_ret
        exact ⟨1, Nat.le_refl _, rfl, rfl⟩
  · clear ho
    rcases hln with rfl | rfl
    · go_enter Try.func33, Try.ntmps33
      go_wp2
      go_ret
      exact ⟨0, Nat.zero_le _, rfl, rfl⟩
    · go_enter Try.func33, Try.ntmps33
      go_wp2
      go_ret
      exact ⟨0, Nat.zero_le _, rfl, rfl⟩

end Go.Proofs.Ytdoecchigfdilaa

/- loops: support.internal, weight, impossible. -/
namespace Go.Proofs.Ytdoecchigfdilaa
open Go.RowKit


/-- A rule that may support, its body's variable, the set. -/
structure SU where
  r : GR
  b : Int
  S : List Int

def SupIs (w : World) (v : Value) (u : SU) : Prop := ∃ vh vb vw vs, v = .agg #[.bool u.r.choice, vh, .bool u.r.sum, .int .i64 u.r.bound, vb, vw, .int .i64 u.b, vs] ∧ RuleSl w u.r vh vb vw ∧ Ints w vs u.S ∧ InI u.b

theorem SupIs.below {w w' : World} {v : Value} {u : SU} (h : SupIs w v u) (hb : Below w.heap.size w w') : SupIs w' v u :=
  let ⟨vh, vb, vw, vs, e, h1, h2, h3⟩ := h; ⟨vh, vb, vw, vs, e, h1.below hb, h2.below hb, h3⟩

def intB (S : List Int) (l : Int) : Bool := decide (0 < l) && decide (l ∈ S)

set_option maxHeartbeats 1000000 in
theorem internal_any (v : Value) (u : SU) (l : Int) (w : World) (h : SupIs w v u) :
    Calls Try.prog 99 #[v, .int .i64 l] w fun e w' => e = .returned (.bool (intB u.S l)) ∧ Below w.heap.size w w' := by
  obtain ⟨vh, vb, vw, vs, rfl, hsl, hS, hb⟩ := h
  have hal := bal (Below.refl w.heap.size w) (.cells #[.bool u.r.choice, vh, .bool u.r.sum, .int .i64 u.r.bound, vb, vw, .int .i64 u.b, vs] 83)
  obtain ⟨a4, c4, rfl, -, hl4, -, -⟩ := hS.form
  have HS := Lib.hid (hS.below hal)
  clear hS hsl hb
  by_cases hl : 0 < l
  · have HF : Hid (intB u.S l = decide (l ∈ u.S)) := Lib.hid (by unfold intB; rw [decide_eq_true hl, Bool.true_and])
    go_enter Try.func99, Try.ntmps99
    go_wp2_with (go_at_call 60; (with_reducible refine (contains_any _ _ l _ HS.out).mono ?_); rintro e w1 ⟨rfl, rfl⟩)
    go_ret
    exact ⟨ret_bool HF.out.symm, hal⟩
  · have hl' : decide (0 < l) = false := decide_eq_false hl
    have HF : Hid (intB u.S l = false) := Lib.hid (by unfold intB; rw [hl', Bool.false_and])
    clear hl
    go_enter Try.func99, Try.ntmps99
    go_wp2
    go_ret
    exact ⟨ret_bool HF.out.symm, hal⟩

/-- The weight of the external literals for which g holds. -/
def wgt (u : SU) (g : Int → Bool) : Nat → Int
  | 0 => 0
  | k + 1 => wgt u g k + if !intB u.S (ix u.r.body k) && g (ix u.r.body k) then ix u.r.w k else 0


/-- A body whose weights stay small. -/
structure SUok (u : SU) : Prop where
  lits : ∀ k, k < u.r.body.length → 1 ≤ (ix u.r.body k).natAbs ∧ (ix u.r.body k).natAbs ≤ 1000000
  wts : u.r.sum = true → u.r.w.length = u.r.body.length ∧ (∀ k, k < u.r.w.length → 1 ≤ ix u.r.w k) ∧ ∀ k, k ≤ u.r.w.length → 0 ≤ sumTo u.r.w k ∧ sumTo u.r.w k ≤ 1048576
  bound : 0 ≤ u.r.bound ∧ u.r.bound ≤ 1048576
  head : ∀ k, k < u.r.head.length → 1 ≤ ix u.r.head k ∧ ix u.r.head k ≤ 1000000
  b : 1 ≤ u.b ∧ u.b ≤ 1000000
  hlen : u.r.head.length ≤ 1000000

theorem wgt_le {u : SU} (h : SUok u) (hs : u.r.sum = true) (g : Int → Bool) : ∀ k, k ≤ u.r.body.length → 0 ≤ wgt u g k ∧ wgt u g k ≤ sumTo u.r.w k
  | 0, _ => by simp [wgt, sumTo]
  | k + 1, hk => by
    have ih := wgt_le h hs g k (by omega)
    have h1 := (h.wts hs).2.1 k (by have := (h.wts hs).1; omega)
    unfold wgt sumTo
    split <;> omega

def WgRel (u : SU) (g : Int → Bool) (w : World) (sum i : Value) (wx : World) : Prop := ∃ k : Nat, k ≤ u.r.body.length ∧ i = .int .i64 k ∧ sum = .int .i64 (wgt u g k) ∧ Below w.heap.size w wx


set_option maxHeartbeats 4000000 in
set_option maxRecDepth 100000 in
theorem wgt_imp1 (v : Value) (u : SU) (w : World) (h : SupIs w v u) (hok : SUok u) (hs : u.r.sum = true) (g : Int → Bool) 
    (hg : ∀ w', Below w.heap.size w w' → ∀ l : Int, 1 ≤ l.natAbs → l.natAbs ≤ 1000000 → Calls Try.prog 98 #[.int .i64 l] w' fun e w'' => e = .returned (.bool (g l)) ∧ Below w'.heap.size w' w'') :
    Calls Try.prog 80 #[v, .func (.func 98) #[] #[]] w fun e w' => e = .returned (.int .i64 (wgt u g u.r.body.length)) ∧ Below w.heap.size w w' := by
  have h0 := h
  obtain ⟨vh, vb, vw, vs, rfl, hsl, hS, hb⟩ := h
  have hal := bal (Below.refl w.heap.size w) (.cells #[.bool u.r.choice, vh, .bool u.r.sum, .int .i64 u.r.bound, vb, vw, .int .i64 u.b, vs] 83)
  obtain ⟨a1, c1, rfl, -, hl1, -, -⟩ := hsl.head.form
  obtain ⟨a2, c2, rfl, -, hl2, -, hcb⟩ := hsl.body.form
  obtain ⟨a3, c3, rfl, -, hl3, -, hcw⟩ := hsl.wts.form
  obtain ⟨a4, c4, rfl, -, hl4, -, -⟩ := hS.form
  have H0 := Lib.hid h0
  have HG := Lib.hid hg
  have HBK := Lib.hid (Blk.new w [.bool u.r.choice, .slice a1 u.r.head.length c1, .bool u.r.sum, .int .i64 u.r.bound, .slice a2 u.r.body.length c2, .slice a3 u.r.w.length c3, .int .i64 u.b, .slice a4 u.S.length c4] 83)
  have HCB := Lib.hid hcb
  have HCW := Lib.hid hcw
  have HOK := Lib.hid hok
  have HWS := Lib.hid (hok.wts hs)
  have hwl : u.r.w.length ≤ u.r.body.length ∧ u.r.body.length ≤ u.r.w.length := by have := (hok.wts hs).1; omega
  have HSM := Lib.hid hs
  clear h0 hsl hS hb hg hcb hcw hok hs
  go_enter Try.func80, Try.ntmps80
  go_upto_region 1 with fail
  have HAL := Lib.hid hal
  clear hal
  generalize w.alloc (.cells #[.bool u.r.choice, .slice a1 u.r.head.length c1, .bool u.r.sum, .int .i64 u.r.bound, .slice a2 u.r.body.length c2, .slice a3 u.r.w.length c3, .int .i64 u.b, .slice a4 u.S.length c4] 83) = W0 at *
  have kx := HBK.out.cell
  have hzW : w.heap.size < W0.heap.size := HBK.out.lt
  go_wp2_with fail
  clear kx
  go_loopw [5, 12] (fun s i wx => WgRel u g W0 s i wx) (fun _ i _ => u.r.body.length - (intOf i).toNat)
  case atStart => exact ⟨0, Nat.zero_le _, rfl, rfl, Below.refl _ _⟩
  case round =>
    obtain ⟨k, hk, rfl, rfl, hbx⟩ := hrel
    have HBX := Lib.hid hbx
    have hbw : Below w.heap.size w wr := HAL.out.trans (hbx.mono (by omega))
    have HBW := Lib.hid hbw
    have kx := fun o => (bcell hbx _ o HBK.out.lt).trans (HBK.out.cell o)
    have hz := hbx.size
    have hle := wgt_le HOK.out HSM.out g k hk
    have hsm := HWS.out.2.2 k (by omega)
    clear hbx
    by_cases hlt : k < u.r.body.length
    · obtain ⟨bb, offb, rfl, hbb, hcb⟩ := HCB.out (by omega)
      have kb := (bcell hbw _ _ hbb).trans (hcb k hlt)
      obtain ⟨bw, offw, rfl, hbw2, hcw⟩ := HCW.out (by omega)
      have hcw0 := hcw k (by omega)
      have kw := (bcell hbw _ _ hbw2).trans hcw0
      have hle2 := wgt_le HOK.out HSM.out g (k + 1) hlt
      have hsm2 := HWS.out.2.2 (k + 1) (by omega)
      have hl := HOK.out.lits k hlt
      have HIN := Lib.hid (internal_any _ u (ix u.r.body k) wr (H0.out.below hbw))
      have HST : Hid (wgt u g (k + 1) = wgt u g k + if !intB u.S (ix u.r.body k) && g (ix u.r.body k) then ix u.r.w k else 0) := Lib.hid rfl
      have hw1 := HWS.out.2.1 k (by omega)
      clear hcb hcw hbw
      cases hi : intB u.S (ix u.r.body k) with
      | true =>
        rw [hi] at HIN HST
        have HS2 : Hid (wgt u g (k + 1) = wgt u g k) := Lib.hid (by rw [HST.out]; simp)
        go_wp2_with (go_at_call 99; (with_reducible refine (HIN.out).mono ?_); rintro e w1 ⟨rfl, hb1⟩; have HB1 := Lib.hid (bon HBX.out hb1); clear hb1)
        first
          | (go_roundw
             case rel => (exact ⟨k + 1, by omega, by go_num, by rw [HS2.out], HB1.out⟩)
             case measure => (simp [intOf]; omega))
          | (refine ⟨?_, ?_⟩
             · (exact ⟨k + 1, by omega, by go_num, by rw [HS2.out], HB1.out⟩)
             · (simp [intOf]; omega))
      | false =>
        rw [hi] at HIN HST
        cases hgl : g (ix u.r.body k) with
        | false =>
          rw [hgl] at HST
          have HS2 : Hid (wgt u g (k + 1) = wgt u g k) := Lib.hid (by rw [HST.out]; simp)
          go_wp2_with (first | (go_at_call 98; (with_reducible refine (HG.out _ (bon HBW.out hb1) _ hl.1 hl.2).mono ?_); rintro e w2 ⟨e2, hb2⟩; rw [hgl] at e2; subst e2; have HB2 := Lib.hid (bon (bon HBX.out hb1) hb2)) | (go_at_call 99; (with_reducible refine (HIN.out).mono ?_); rintro e w1 ⟨rfl, hb1⟩; have kx1 := fun o => (bcell (bon HBX.out hb1) _ o HBK.out.lt).trans (HBK.out.cell o); have hz1 := hb1.size))
          first
            | (go_roundw
               case rel => (exact ⟨k + 1, by omega, by go_num, by rw [HS2.out], HB2.out⟩)
               case measure => (simp [intOf]; omega))
            | (refine ⟨?_, ?_⟩
               · (exact ⟨k + 1, by omega, by go_num, by rw [HS2.out], HB2.out⟩)
               · (simp [intOf]; omega))
        | true =>
          rw [hgl] at HST
          have HS2 : Hid (wgt u g (k + 1) = wgt u g k + ix u.r.w k) := Lib.hid (by rw [HST.out]; simp)
          have hs2 : wgt u g k + ix u.r.w k ≤ 1048576 := by rw [HS2.out] at hle2; omega
          go_wp2_with (first | (go_at_call 98; (with_reducible refine (HG.out _ (bon HBW.out hb1) _ hl.1 hl.2).mono ?_); rintro e w2 ⟨e2, hb2⟩; rw [hgl] at e2; subst e2; have HB2 := Lib.hid (bon (bon HBX.out hb1) hb2); have kw2 := (bcell (bon (bon HBW.out hb1) hb2) _ _ hbw2).trans hcw0; have kx2 := fun o => (bcell (bon (bon HBX.out hb1) hb2) _ o HBK.out.lt).trans (HBK.out.cell o); have hz2 := hb2.size) | (go_at_call 99; (with_reducible refine (HIN.out).mono ?_); rintro e w1 ⟨rfl, hb1⟩; have kx1 := fun o => (bcell (bon HBX.out hb1) _ o HBK.out.lt).trans (HBK.out.cell o); have hz1 := hb1.size))
          first
            | (go_roundw
               case rel => (exact ⟨k + 1, by omega, by go_num, by rw [HS2.out], HB2.out⟩)
               case measure => (simp [intOf]; omega))
            | (refine ⟨?_, ?_⟩
               · (exact ⟨k + 1, by omega, by go_num, by rw [HS2.out], HB2.out⟩)
               · (simp [intOf]; omega))
    · obtain rfl : k = u.r.body.length := by omega
      go_wp2_with fail
      go_ret
      exact ⟨rfl, HAL.out.trans (HBX.out.mono (by omega))⟩

end Go.Proofs.Ytdoecchigfdilaa

/- loops: support.others (slices.DeleteFunc). -/
namespace Go.Proofs.Ytdoecchigfdilaa
open Go.RowKit


theorem below_setCells {n b : Nat} {w0 : World} (hb : n ≤ b) : ∀ (vs : List Value) (o : Nat) (w : World), Below n w0 w → Below n w0 (w.setCells b o vs)
  | [], _, _, h => h
  | v :: vs, o, _, h => below_setCells hb vs (o + 1) _ (h.setCell (show n ≤ b from hb) v)

theorem blk_setCells {g : Nat} {t : TypeId} : ∀ (vs : List Value) (o : Nat) (D : List Value) (w : World), Blk w g D t → ∃ D', Blk (w.setCells g o vs) g D' t ∧ D'.length = D.length ∧ ∀ k, k < o → D'[k]? = D[k]?
  | [], _, D, _, h => ⟨D, h, rfl, fun _ _ => rfl⟩
  | v :: vs, o, D, w, h => by
    obtain ⟨D', h1, h2, h3⟩ := blk_setCells vs (o + 1) (D.set o v) (w.setCell ⟨g, o, none⟩ v) (h.set o v)
    refine ⟨D', h1, by simpa using h2, fun k hk => ?_⟩
    rw [h3 k (by omega), List.getElem?_set_ne (by omega)]

theorem lim_setCells {n g : Nat} {S : List Nat} {w0 : World} (hg : g ∈ S) : ∀ (vs : List Value) (o : Nat) (w : World), Lim n S w0 w → Lim n S w0 (w.setCells g o vs)
  | [], _, _, h => h
  | v :: vs, o, _, h => lim_setCells hg vs (o + 1) _ (h.trans (.setCell v (.inl hg)))

def keepF (q : Int → Bool) (l : List Int) (j : Nat) : List Int := (l.take j).filter fun x => !q x

theorem keepF_succ {q : Int → Bool} {l : List Int} {j : Nat} (hj : j < l.length) : keepF q l (j + 1) = if q (ix l j) then keepF q l j else keepF q l j ++ [ix l j] := by
  unfold keepF
  rw [take_ix l j hj, List.filter_append]
  cases h : q (ix l j) <;> simp [h]

theorem keepF_none {q : Int → Bool} {l : List Int} : ∀ j, j ≤ l.length → (∀ k, k < j → q (ix l k) = false) → keepF q l j = l.take j
  | 0, _, _ => by simp [keepF]
  | j + 1, hj, h => by
    rw [keepF_succ (by omega), h j (by omega), keepF_none j (by omega) (fun k hk => h k (by omega)), take_ix l j (by omega)]
    rfl

theorem keepF_le (q : Int → Bool) (l : List Int) (j : Nat) : (keepF q l j).length ≤ j := by
  have h := List.length_filter_le (fun x => !q x) (l.take j)
  have h2 := List.length_take_le j l
  unfold keepF
  omega

theorem fits_of {l : List Int} (h : ∀ x ∈ l, InI x) : Fits l := fun i => by
  by_cases hi : i < l.length
  · exact h _ (ix_mem hi)
  · have : ix l i = 0 := by unfold ix; rw [List.getD_eq_getElem?_getD, List.getElem?_eq_none (by omega)]; rfl
    rw [this]; omega

theorem ix_push (l : List Int) (x : Int) : ix (l ++ [x]) l.length = x := by simp [ix]

/-- The cells under way. -/
def DelSt (w : World) (g : Nat) (q : Int → Bool) (l : List Int) (N j : Nat) (wx : World) : Prop :=
  ∃ D : List Value, D.length = N ∧ Blk wx g D 3 ∧ (∀ k, k < (keepF q l j).length → D[k]? = some (.int .i64 (ix (keepF q l j) k))) ∧ (∀ k, j ≤ k → k < l.length → D[k]? = some (.int .i64 (ix l k))) ∧ Lim w.heap.size [g] w wx
def DelRel (w : World) (g : Nat) (q : Int → Bool) (l : List Int) (N : Nat) (i j : Value) (wx : World) : Prop :=
  ∃ jj : Nat, jj ≤ l.length ∧ j = .int .i64 jj ∧ i = .int .i64 (keepF q l jj).length ∧ (keepF q l jj).length < jj ∧ DelSt w g q l N jj wx

theorem DelSt.keep {w wx : World} {g N j : Nat} {q : Int → Bool} {l : List Int} (h : DelSt w g q l N j wx) (hj : j < l.length) (hN : l.length ≤ N) (hq : q (ix l j) = false) :
    DelSt w g q l N (j + 1) (wx.setCell ⟨g, (keepF q l j).length, none⟩ (.int .i64 (ix l j))) := by
  obtain ⟨D, h1, h2, h3, h4, h5⟩ := h
  have hle := keepF_le q l j
  have e : keepF q l (j + 1) = keepF q l j ++ [ix l j] := by rw [keepF_succ hj, hq]; rfl
  refine ⟨D.set (keepF q l j).length (.int .i64 (ix l j)), by simpa using h1, h2.set _ _, fun k hk => ?_, fun k hk hk2 => ?_, h5.trans (.setCell _ (.inl (by simp)))⟩
  · rw [e] at hk ⊢
    simp only [List.length_append, List.length_singleton] at hk
    by_cases hke : k = (keepF q l j).length
    · subst hke
      rw [List.getElem?_set_self (by omega), ix_push]
    · rw [List.getElem?_set_ne (by omega), h3 k (by omega)]
      congr 2
      simp [ix, List.getElem?_append_left (show k < (keepF q l j).length by omega)]
  · rw [List.getElem?_set_ne (by omega)]
    exact h4 k (by omega) hk2

theorem DelSt.drop {w wx : World} {g N j : Nat} {q : Int → Bool} {l : List Int} (h : DelSt w g q l N j wx) (hj : j < l.length) (hq : q (ix l j) = true) : DelSt w g q l N (j + 1) wx := by
  obtain ⟨D, h1, h2, h3, h4, h5⟩ := h
  have e : keepF q l (j + 1) = keepF q l j := by rw [keepF_succ hj, hq]; rfl
  exact ⟨D, h1, h2, by rw [e]; exact h3, fun k hk => h4 k (by omega), h5⟩

theorem DelSt.on {w wx w' : World} {g N j : Nat} {q : Int → Bool} {l : List Int} (h : DelSt w g q l N j wx) (hb : Below wx.heap.size wx w') : DelSt w g q l N j w' := by
  obtain ⟨D, h1, h2, h3, h4, h5⟩ := h
  exact ⟨D, h1, h2.below hb, h3, h4, h5.trans (.of_below hb h5.size)⟩

set_option maxHeartbeats 1000000 in
theorem idx_oth (v : Value) (l : List Int) (w : World) (h : Ints w v l) (g : Nat → Bool) (cap : Value)
    (hg : ∀ w', Below w.heap.size w w' → ∀ j, j < l.length → Calls Try.prog 101 #[.int .i64 (ix l j), cap] w' fun e w'' => e = .returned (.bool (g j)) ∧ Below w'.heap.size w' w'') :
    Calls Try.prog 50 #[v, .func (.func 101) #[] #[cap]] w fun e w' => ∃ r, e = .returned (.int .i64 r) ∧ IxP l.length g r ∧ Below w.heap.size w w' := by
  obtain ⟨a1, c1, rfl, -, hl1, -, hcell⟩ := h.form
  have HG := Lib.hid hg
  clear h hg
  go_enter Try.func50, Try.ntmps50
  go_wp2
  go_loopw [8] (fun i wx => IxR l.length g w i wx) (fun i _ => l.length - (intOf i).toNat)
  case atStart => exact ⟨0, by omega, rfl, fun j hj => absurd hj (Nat.not_lt_zero _), Below.refl _ _⟩
  case round =>
    obtain ⟨k, hk, rfl, hall, hb⟩ := hrel
    have HA := Lib.hid hall
    clear hall
    by_cases hlt : k < l.length
    · obtain ⟨b, off, rfl, hbl, hc⟩ := hcell (by omega)
      have hk1 := (bcell hb _ _ hbl).trans (hc k hlt)
      clear hc hcell
      cases g1 : g k with
      | true =>
        have HK : Hid (_ = true) := Lib.hid g1
        have HC := Lib.hid (HG.out _ hb k hlt)
        rw [g1] at HC
        clear g1
        go_wp2_with (go_at_call 101; refine (HC.out).mono ?_; rintro e w1 ⟨rfl, hb1⟩)
        go_ret
        exact ⟨_, rfl, .inr ⟨k, hlt, rfl, HK.out, HA.out⟩, bon hb hb1⟩
      | false =>
        have HN := Lib.hid (lt_succ_all HA.out g1)
        have HC := Lib.hid (HG.out _ hb k hlt)
        rw [g1] at HC
        clear g1
        go_wp2_with (go_at_call 101; refine (HC.out).mono ?_; rintro e w1 ⟨rfl, hb1⟩)
        first
          | (go_roundw
             case rel => (exact ⟨k + 1, by omega, by go_num, HN.out, bon hb hb1⟩)
             case measure => (simp [intOf]; omega))
          | (refine ⟨?_, ?_⟩
             · (exact ⟨k + 1, by omega, by go_num, HN.out, bon hb hb1⟩)
             · (simp [intOf]; omega))
    · have HN : Hid (∀ j, j < l.length → g j = false) := Lib.hid (fun j hj => HA.out j (by omega))
      go_wp2
      go_ret
      exact ⟨_, rfl, .inl ⟨rfl, HN.out⟩, hb⟩

set_option maxHeartbeats 1000000 in
theorem ctn_oth (v : Value) (l : List Int) (w : World) (h : Ints w v l) (g : Nat → Bool) (cap : Value)
    (hg : ∀ w', Below w.heap.size w w' → ∀ j, j < l.length → Calls Try.prog 101 #[.int .i64 (ix l j), cap] w' fun e w'' => e = .returned (.bool (g j)) ∧ Below w'.heap.size w' w'') :
    Calls Try.prog 40 #[v, .func (.func 101) #[] #[cap]] w fun e w' => e = .returned (.bool (anyR l.length g)) ∧ Below w.heap.size w w' := by
  have HI := Lib.hid (idx_oth v l w h g cap hg)
  obtain ⟨a1, c1, rfl, -⟩ := h.form
  clear h hg
  go_enter Try.func40, Try.ntmps40
  go_wp2_with (go_at_call 50; refine (HI.out).mono ?_; rintro e w1 ⟨r, rfl, hr, hb1⟩; have HR := Lib.hid hr; clear hr)
  go_ret
  exact ⟨ret_bool HR.out.any, hb1⟩

/-- The box of a support. -/
def SupB (w : World) (b : Nat) (u : SU) : Prop := ∃ vh vb vw vs, Blk w b [.bool u.r.choice, vh, .bool u.r.sum, .int .i64 u.r.bound, vb, vw, .int .i64 u.b, vs] 83 ∧ RuleSl w u.r vh vb vw ∧ Ints w vs u.S ∧ InI u.b

theorem SupB.below {w w' : World} {b : Nat} {u : SU} (h : SupB w b u) (hb : Below w.heap.size w w') : SupB w' b u :=
  let ⟨vh, vb, vw, vs, h0, h1, h2, h3⟩ := h; ⟨vh, vb, vw, vs, h0.below hb, h1.below hb, h2.below hb, h3⟩

set_option maxHeartbeats 1000000 in
theorem oth1_any (u : SU) (b : Nat) (x : Int) (w : World) (h : SupB w b u) :
    Calls Try.prog 101 #[.int .i64 x, .pointer (some ⟨b, 0, none⟩)] w fun e w' => e = .returned (.bool (decide (x ∈ u.S))) ∧ w = w' := by
  obtain ⟨vh, vb, vw, vs, h0, h1, h2, h3⟩ := h
  obtain ⟨a4, c4, rfl, -, hl4, -, -⟩ := h2.form
  have k7 := h0.cell 7
  have HS := Lib.hid h2
  clear h0 h1 h2 h3
  go_enter Try.func101, Try.ntmps101
  go_wp2_with (go_at_call 60; (with_reducible refine (contains_any _ _ x _ HS.out).mono ?_); rintro e w1 ⟨rfl, rfl⟩)
  go_ret
  exact ⟨rfl, rfl⟩

set_option maxHeartbeats 4000000 in
set_option maxRecDepth 100000 in
theorem delf_oth (l : List Int) (g c base : Nat) (D : List Value) (w : World) (hb : Blk w g D 3) (hcell : ∀ k, k < l.length → D[k]? = some (.int .i64 (ix l k))) (hfit : Fits l) (hn : l.length ≤ c ∧ c ≤ D.length ∧ c ≤ maxLen) (hbase : base ≤ g) (hl8 : l.length * 8 ≤ 140737488351232)
    (q : Int → Bool) (cap : Value) (hq : ∀ w', Lim w.heap.size [g] w w' → ∀ x, Calls Try.prog 101 #[.int .i64 x, cap] w' fun e w'' => e = .returned (.bool (q x)) ∧ w' = w'') :
    Calls Try.prog 100 #[.slice (some ⟨g, 0, none⟩) l.length c, .func (.func 101) #[] #[cap]] w fun e w' => ∃ a n c', e = .returned (.slice a n c') ∧ QRow base w' (.slice a n c') (keepF q l l.length) ∧ Lim w.heap.size [g] w w' := by
  have hint : Ints w (.slice (some ⟨g, 0, none⟩) l.length c) l := ⟨⟨_, _, rfl, hn.1, hn.2.2, hl8, fun _ => ⟨g, 0, rfl, hb.lt, fun i hi => by rw [Nat.zero_add, hb.cell]; exact hcell i hi⟩⟩, hfit⟩
  have HI := Lib.hid (idx_oth _ l w hint (fun j => q (ix l j)) cap (fun w' hb' j _ => (hq w' (.of_below hb' (Nat.le_refl _)) _).mono fun e w'' ⟨h1, h2⟩ => ⟨h1, h2 ▸ Below.refl _ _⟩))
  have HQ := Lib.hid hq
  have HB := Lib.hid hb
  have HC := Lib.hid hcell
  have HFT := Lib.hid hfit
  have hglt := hb.lt
  clear hint hq hb hcell hfit
  go_enter Try.func100, Try.ntmps100
  go_upto_region 2 with (go_at_call 50; (with_reducible refine (HI.out).mono ?_); rintro e w1 ⟨r, rfl, hr, hb1⟩; have HR := Lib.hid hr; have HB1 := Lib.hid hb1; clear hr hb1)
  rcases HR.out with ⟨rfl, hnone⟩ | ⟨i0, hi0, rfl, hq0, hbef⟩
  · have HK : Hid (keepF q l l.length = l) := Lib.hid (by rw [keepF_none _ (Nat.le_refl _) hnone, List.take_length])
    clear hnone
    go_wp2_with fail
    go_ret
    refine ⟨_, _, _, rfl, ⟨by rw [HK.out]; exact HFT.out, .inr ⟨g, 0, c, D.toArray, by rw [HK.out], hbase, HB.out.below HB1.out, by rw [HK.out]; exact hn.1, hn.2.2, by simp; exact hn.2.1, fun i hi => by rw [HK.out] at hi ⊢; rw [Nat.zero_add, List.getElem?_toArray]; exact HC.out i hi⟩⟩, .of_below HB1.out (Nat.le_refl _)⟩
  · have hk0 : keepF q l i0 = l.take i0 := keepF_none i0 (by omega) hbef
    have hk1 : keepF q l (i0 + 1) = l.take i0 := by rw [keepF_succ hi0, if_pos (show q (ix l i0) = true from hq0)]; exact hk0
    have hst : DelSt w g q l D.length (i0 + 1) w1 := ⟨D, rfl, HB.out.below HB1.out, fun k hk => by
      rw [hk1] at hk ⊢
      simp only [List.length_take] at hk
      rw [HC.out k (by omega)]
      congr 2
      simp [ix, show k < i0 by omega], fun k _ hk => HC.out k hk, .of_below HB1.out (Nat.le_refl _)⟩
    have HST := Lib.hid hst
    have HLE : Hid ((keepF q l (i0 + 1)).length = i0) := Lib.hid (by rw [hk1, List.length_take]; omega)
    clear hst hk0 hk1 hq0 hbef HR HI
    have hi0m : ((i0 : Int) == -1) = false := by simp
    have hlen63 : l.length ≤ 1000000000000000 := by omega
    go_upto_region 5 with fail
    go_loopw [5, 6] (fun i j wx => DelRel w g q l D.length i j wx) (fun _ j _ => l.length - (intOf j).toNat)
    case atStart => exact ⟨i0 + 1, by omega, by go_num, by rw [HLE.out], by rw [HLE.out]; omega, HST.out⟩
    case round =>
      obtain ⟨jj, hjj, rfl, rfl, hlt0, hst⟩ := hrel
      have HS := Lib.hid hst
      obtain ⟨D1, hd1, hd2, hd3, hd4, hd5⟩ := hst
      have hN : l.length ≤ D.length := by omega
      by_cases hltj : jj < l.length
      · have kv := (hd2.cell jj).trans (hd4 jj (Nat.le_refl _) hltj)
        have hil : (keepF q l jj).length < D1.length := by omega
        have ks : wr.cell? ⟨g, (keepF q l jj).length, none⟩ = some (D1[(keepF q l jj).length]) := (hd2.cell _).trans (List.getElem?_eq_getElem hil)
        have fs := hd2.free (keepF q l jj).length
        have HCL := Lib.hid (HQ.out wr hd5 (ix l jj))
        have HSUC := Lib.hid (keepF_succ (q := q) hltj)
        clear hd2 hd3 hd4 hd5
        cases hqv : q (ix l jj) with
        | true =>
          rw [hqv] at HCL HSUC
          have HSU2 : Hid (keepF q l (jj + 1) = keepF q l jj) := Lib.hid (by rw [HSUC.out]; rfl)
          have HNX := Lib.hid (HS.out.drop hltj hqv)
          go_wp2_with (go_at_call 101; (with_reducible refine (HCL.out).mono ?_); rintro e w2 ⟨rfl, rfl⟩)
          first
            | (go_roundw
               case rel => (exact ⟨jj + 1, by omega, by go_num, by rw [HSU2.out], by rw [HSU2.out]; omega, HNX.out⟩)
               case measure => (simp [intOf]; omega))
            | (refine ⟨?_, ?_⟩
               · (exact ⟨jj + 1, by omega, by go_num, by rw [HSU2.out], by rw [HSU2.out]; omega, HNX.out⟩)
               · (simp [intOf]; omega))
        | false =>
          rw [hqv] at HCL HSUC
          have HSU2 : Hid ((keepF q l (jj + 1)).length = (keepF q l jj).length + 1) := Lib.hid (by rw [HSUC.out]; simp)
          have HNX := Lib.hid (HS.out.keep hltj hN hqv)
          go_wp2_with (go_at_call 101; (with_reducible refine (HCL.out).mono ?_); rintro e w2 ⟨rfl, rfl⟩)
          first
            | (go_roundw
               case rel => (exact ⟨jj + 1, by omega, by go_num, by rw [HSU2.out]; go_num, by rw [HSU2.out]; omega, HNX.out⟩)
               case measure => (simp [intOf]; omega))
            | (refine ⟨?_, ?_⟩
               · (exact ⟨jj + 1, by omega, by go_num, by rw [HSU2.out]; go_num, by rw [HSU2.out]; omega, HNX.out⟩)
               · (simp [intOf]; omega))
      · obtain rfl : jj = l.length := by omega
        obtain ⟨fi, hfi⟩ : ∃ fi, fi = (keepF q l l.length).length := ⟨_, rfl⟩
        have HFI := Lib.hid hfi
        rw [← hfi] at hlt0 ⊢
        have hcl : ∀ ty c', (Builtin.clear_ #[23] ty #[.slice (some ⟨g, fi, none⟩) (l.length - fi) c']).run Try.prog wr = .ok (.tuple #[]) (wr.setCells g fi (List.replicate (l.length - fi) (.int .i64 0))) := fun ty c' =>
          Lib.run_clear_slice wr 23 3 ty (.int .i64 0) Try.underlying23 (fun w => Try.zeroValue3 w) rfl rfl g fi (l.length - fi) c' (by omega) (fun j hj => by rw [hd2.cell, List.getElem?_eq_getElem (by omega)]; rfl) (fun j hj => hd2.free _)
        clear hfi hd2 hd3 hd4 hd5
        go_wp2_with fail
        go_ret
        obtain ⟨D2, d1, d2, d3, -, d5⟩ := HS.out
        obtain ⟨D3, e1, e2, e3⟩ := blk_setCells (List.replicate (l.length - fi) (.int .i64 0)) fi D2 wr d2
        rw [← HFI.out] at d3
        refine ⟨_, _, _, rfl, ⟨fits_of (fun x hx => ?_), .inr ⟨g, 0, c, D3.toArray, by rw [← HFI.out], hbase, e1, by rw [← HFI.out]; omega, hn.2.2, by simp; omega, fun i hi => ?_⟩⟩, lim_setCells (by simp) _ _ _ d5⟩
        · have hm : x ∈ l := by
            unfold keepF at hx
            exact List.mem_of_mem_take (List.mem_filter.1 hx).1
          obtain ⟨k, hk, rfl⟩ := mem_ix.1 hm
          exact HFT.out k
        · rw [← HFI.out] at hi
          rw [Nat.zero_add, List.getElem?_toArray, e3 i hi]
          exact d3 i hi

end Go.Proofs.Ytdoecchigfdilaa

/- loops: the closure of Unfounded; others, impossible. -/
namespace Go.Proofs.Ytdoecchigfdilaa
open Go.RowKit



/-- The assignment that Unfounded's closure has captured. -/
def InU (w : World) (ab : Nat) (a : List Int) : Prop := ∃ va, Blk w ab [va] 28 ∧ Bytes8 w va a

theorem InU.below {w w' : World} {ab : Nat} {a : List Int} (h : InU w ab a) (hb : Below w.heap.size w w') : InU w' ab a :=
  let ⟨va, h1, h2⟩ := h; ⟨va, h1.below hb, h2.below hb⟩

set_option maxHeartbeats 1000000 in
theorem inU_any (l : Int) (ab : Nat) (a : List Int) (w : World) (h : InU w ab a) (hl : 1 ≤ l.natAbs ∧ l.natAbs ≤ 1000000) :
    Calls Try.prog 32 #[.int .i64 l, .pointer (some ⟨ab, 0, none⟩)] w fun e w' => e = .returned (.bool (offB a l)) ∧ w = w' := by
  obtain ⟨va, h1, h2⟩ := h
  have k0 := h1.cell 0
  obtain ⟨a9, n9, c9, rfl⟩ : ∃ a9 n9 c9, va = .slice a9 n9 c9 := by obtain ⟨⟨x, y, e, -⟩, -⟩ := h2; exact ⟨_, _, _, e⟩
  have HA := Lib.hid h2
  have hl0 : l ≠ 0 := by omega
  have hl1 : -4611686018427387904 ≤ l ∧ l ≤ 4611686018427387904 := by omega
  have HL0 := Lib.hid hl0
  have HL1 := Lib.hid hl1
  clear h1 h2 hl0 hl1
  cases ho : offB a l with
  | true =>
    have HO := Lib.hid ho
    clear ho
    go_enter Try.func32, Try.ntmps32
    go_wp2_with (go_at_call 33; (with_reducible refine (lvalue_off _ a _ HA.out l HL0.out HL1.out HO.out).mono ?_); rintro e w1 ⟨rfl, rfl⟩)
    go_ret
    exact ⟨rfl, rfl⟩
  | false =>
    have HO := Lib.hid ho
    clear ho
    go_enter Try.func32, Try.ntmps32
    go_wp2_with (go_at_call 33; (with_reducible refine (lvalue_on _ a _ HA.out l HL0.out HL1.out HO.out).mono ?_); rintro e w1 ⟨r, hr, rfl, rfl⟩)
    go_ret
    exact ⟨ret_bool (decide_eq_false (by omega)), rfl⟩

/-- The other heads. -/
def oth (u : SU) : List Int := if u.r.choice then [] else keepF (fun x => decide (x ∈ u.S)) u.r.head u.r.head.length

set_option maxHeartbeats 1000000 in
theorem delf_nil (cap : Value) (w : World) :
    Calls Try.prog 100 #[.slice none 0 0, .func (.func 101) #[] #[cap]] w fun e w' => e = .returned (.slice none 0 0) ∧ Below w.heap.size w w' := by
  have hint : Ints w (.slice none 0 0) [] := nil_ints w
  have HI := Lib.hid (idx_oth _ [] w hint (fun _ => false) cap (fun w' hb' j hj => absurd hj (Nat.not_lt_zero _)))
  clear hint
  go_enter Try.func100, Try.ntmps100
  go_upto_region 2 with (go_at_call 50; (with_reducible refine (HI.out).mono ?_); rintro e w1 ⟨r, rfl, hr, hb1⟩; have HR := Lib.hid hr; have HB1 := Lib.hid hb1; clear hr hb1)
  rcases HR.out with ⟨rfl, -⟩ | ⟨i0, hi0, -⟩
  · go_wp2_with fail
    go_ret
    exact ⟨rfl, HB1.out⟩
  · exact absurd hi0 (Nat.not_lt_zero _)


theorem delf_row {base : Nat} {w : World} {v : Value} {l : List Int} (h : OwnI base w v l) (hbase : base ≤ w.heap.size) (q : Int → Bool) (cap : Value) (hq : ∀ w', Below base w w' → ∀ x, Calls Try.prog 101 #[.int .i64 x, cap] w' fun e w'' => e = .returned (.bool (q x)) ∧ w' = w'') :
    Calls Try.prog 100 #[v, .func (.func 101) #[] #[cap]] w fun e w' => ∃ a n c', e = .returned (.slice a n c') ∧ QRow base w' (.slice a n c') (keepF q l l.length) ∧ Below base w w' := by
  obtain ⟨⟨hrow, h8⟩, hfit⟩ := h
  rcases hrow.2 with ⟨rfl, h0⟩ | ⟨g, c, cur, rfl, hb, hg, hn, hm, hs, hx⟩
  · have : l = [] := List.eq_nil_of_length_eq_zero h0
    subst this
    refine (delf_nil cap w).mono fun e w' ⟨he, hb⟩ => ⟨none, 0, 0, he, QRow.nil _ _, hb.mono hbase⟩
  · refine (delf_oth l g c base cur.toList w (by unfold Blk; simpa using hg) (fun k hk => ?_) hfit ⟨hn, by simp; omega, hm⟩ hb h8 q cap (fun w' hl x => hq w' ((hl.mono hbase (fun i hi _ => hi)).below (fun i hi => by simp only [List.mem_singleton] at hi; omega)) x)).mono fun e w' ⟨a, n, c', he, hr, hl⟩ => ⟨a, n, c', he, hr, (hl.mono hbase (fun i hi _ => hi)).below (fun i hi => by simp only [List.mem_singleton] at hi; omega)⟩
    have h4 : (cur.toList.take (l.length * 1))[k]? = some (.int .i64 (ix l k)) := by rw [hx]; simp [hk]
    rw [List.getElem?_take_of_lt (by omega)] at h4
    exact h4

set_option maxHeartbeats 4000000 in
set_option maxRecDepth 100000 in
theorem others_any (v : Value) (u : SU) (w : World) (h : SupIs w v u) :
    Calls Try.prog 77 #[v] w fun e w' => ∃ a n c, e = .returned (.slice a n c) ∧ QRow w.heap.size w' (.slice a n c) (oth u) ∧ Below w.heap.size w w' := by
  obtain ⟨vh, vb, vw, vs, rfl, hsl, hS, hb⟩ := h
  have hal := bal (Below.refl w.heap.size w) (.cells #[.bool u.r.choice, vh, .bool u.r.sum, .int .i64 u.r.bound, vb, vw, .int .i64 u.b, vs] 83)
  obtain ⟨a1, c1, rfl, -, hl1, -, -⟩ := hsl.head.form
  obtain ⟨a2, c2, rfl, -, hl2, -, -⟩ := hsl.body.form
  obtain ⟨a3, c3, rfl, -, hl3, -, -⟩ := hsl.wts.form
  obtain ⟨a4, c4, rfl, -, hl4, -, -⟩ := hS.form
  have HBK := Lib.hid (Blk.new w [.bool u.r.choice, .slice a1 u.r.head.length c1, .bool u.r.sum, .int .i64 u.r.bound, .slice a2 u.r.body.length c2, .slice a3 u.r.w.length c3, .int .i64 u.b, .slice a4 u.S.length c4] 83)
  have HSL := Lib.hid hsl
  have HS := Lib.hid hS
  have HAL := Lib.hid hal
  clear hsl hS hal
  cases hch : u.r.choice with
  | true =>
    have HF : Hid (oth u = []) := Lib.hid (by unfold oth; rw [hch]; rfl)
    rw [hch] at HAL
    clear HBK
    go_enter Try.func77, Try.ntmps77
    go_wp2
    go_ret
    exact ⟨_, _, _, rfl, by rw [HF.out]; exact QRow.nil _ _, HAL.out⟩
  | false =>
    have HF : Hid (oth u = keepF (fun x => decide (x ∈ u.S)) u.r.head u.r.head.length) := Lib.hid (by unfold oth; rw [hch]; rfl)
    rw [hch] at HAL HBK
    have HH0 := Lib.hid (HSL.out.head.below HAL.out)
    go_enter Try.func77, Try.ntmps77
    go_upto_region 3 with fail
    have kx := HBK.out.cell
    generalize w.alloc (.cells #[.bool false, .slice a1 u.r.head.length c1, .bool u.r.sum, .int .i64 u.r.bound, .slice a2 u.r.body.length c2, .slice a3 u.r.w.length c3, .int .i64 u.b, .slice a4 u.S.length c4] 83) = W0 at *
    have hz0 : w.heap.size < W0.heap.size := HBK.out.lt
    have HSB : Hid (∀ w', Below W0.heap.size W0 w' → SupB w' w.heap.size u) := Lib.hid (fun w' hb' => ⟨_, _, _, _, by rw [hch]; exact HBK.out.below hb', HSL.out.below (HAL.out.trans (hb'.mono (by omega))), HS.out.below (HAL.out.trans (hb'.mono (by omega))), hb⟩)
    go_wp2_with (first
      | (go_at_call 100; (with_reducible refine (delf_row HOW.out hz1 (fun x => decide (x ∈ u.S)) _ (fun w' hb' x => oth1_any u _ x w' (HSB.out w' (HB1.out.trans hb')))).mono ?_); rintro e w2 ⟨a5, n5, c5, rfl, hq5, hb5⟩; have HQ5 := Lib.hid hq5; have HB5 := Lib.hid hb5; clear hq5 hb5)
      | (go_at_call 46; (with_reducible refine (cloneI_any _ u.r.head W0 HH0.out).mono ?_); rintro e w1 ⟨v1, rfl, ho1, hb1⟩; have HOW := Lib.hid ho1; have HB1 := Lib.hid hb1; have hz1 := hb1.size; have kx1 := fun o => (bcell hb1 _ o HBK.out.lt).trans (HBK.out.cell o); clear ho1 hb1))
    go_ret
    exact ⟨_, _, _, rfl, by rw [HF.out]; exact HQ5.out.mono (by omega), HAL.out.trans ((HB1.out.trans HB5.out).mono (by omega))⟩

def impB (u : SU) : Bool := if u.r.sum then decide (wgt u (fun _ => true) u.r.body.length < u.r.bound) else anyR u.r.body.length (fun j => intB u.S (ix u.r.body j))

theorem imp1_any (w : World) (l : Int) : Calls Try.prog 98 #[.int .i64 l] w fun e w' => e = .returned (.bool true) ∧ w = w' := by
  go_enter Try.func98, Try.ntmps98
  go_wp2
  go_ret
  exact ⟨rfl, rfl⟩

set_option maxHeartbeats 1000000 in
theorem idx_int (v : Value) (l : List Int) (w : World) (h : Ints w v l) (g : Nat → Bool) (fst : Value)
    (hg : ∀ w', Below w.heap.size w w' → ∀ j, j < l.length → Calls Try.prog 99 #[fst, .int .i64 (ix l j)] w' fun e w'' => e = .returned (.bool (g j)) ∧ Below w'.heap.size w' w'') :
    Calls Try.prog 50 #[v, .func (.func 99) #[fst] #[]] w fun e w' => ∃ r, e = .returned (.int .i64 r) ∧ IxP l.length g r ∧ Below w.heap.size w w' := by
  obtain ⟨a1, c1, rfl, -, hl1, -, hcell⟩ := h.form
  have HG := Lib.hid hg
  clear h hg
  go_enter Try.func50, Try.ntmps50
  go_wp2
  go_loopw [8] (fun i wx => IxR l.length g w i wx) (fun i _ => l.length - (intOf i).toNat)
  case atStart => exact ⟨0, by omega, rfl, fun j hj => absurd hj (Nat.not_lt_zero _), Below.refl _ _⟩
  case round =>
    obtain ⟨k, hk, rfl, hall, hb⟩ := hrel
    have HA := Lib.hid hall
    clear hall
    by_cases hlt : k < l.length
    · obtain ⟨b, off, rfl, hbl, hc⟩ := hcell (by omega)
      have hk1 := (bcell hb _ _ hbl).trans (hc k hlt)
      clear hc hcell
      cases g1 : g k with
      | true =>
        have HK : Hid (_ = true) := Lib.hid g1
        have HC := Lib.hid (HG.out _ hb k hlt)
        rw [g1] at HC
        clear g1
        go_wp2_with (go_at_call 99; refine (HC.out).mono ?_; rintro e w1 ⟨rfl, hb1⟩)
        go_ret
        exact ⟨_, rfl, .inr ⟨k, hlt, rfl, HK.out, HA.out⟩, bon hb hb1⟩
      | false =>
        have HN := Lib.hid (lt_succ_all HA.out g1)
        have HC := Lib.hid (HG.out _ hb k hlt)
        rw [g1] at HC
        clear g1
        go_wp2_with (go_at_call 99; refine (HC.out).mono ?_; rintro e w1 ⟨rfl, hb1⟩)
        first
          | (go_roundw
             case rel => (exact ⟨k + 1, by omega, by go_num, HN.out, bon hb hb1⟩)
             case measure => (simp [intOf]; omega))
          | (refine ⟨?_, ?_⟩
             · (exact ⟨k + 1, by omega, by go_num, HN.out, bon hb hb1⟩)
             · (simp [intOf]; omega))
    · have HN : Hid (∀ j, j < l.length → g j = false) := Lib.hid (fun j hj => HA.out j (by omega))
      go_wp2
      go_ret
      exact ⟨_, rfl, .inl ⟨rfl, HN.out⟩, hb⟩

set_option maxHeartbeats 1000000 in
theorem ctn_int (v : Value) (l : List Int) (w : World) (h : Ints w v l) (g : Nat → Bool) (fst : Value)
    (hg : ∀ w', Below w.heap.size w w' → ∀ j, j < l.length → Calls Try.prog 99 #[fst, .int .i64 (ix l j)] w' fun e w'' => e = .returned (.bool (g j)) ∧ Below w'.heap.size w' w'') :
    Calls Try.prog 40 #[v, .func (.func 99) #[fst] #[]] w fun e w' => e = .returned (.bool (anyR l.length g)) ∧ Below w.heap.size w w' := by
  have HI := Lib.hid (idx_int v l w h g fst hg)
  obtain ⟨a1, c1, rfl, -⟩ := h.form
  clear h hg
  go_enter Try.func40, Try.ntmps40
  go_wp2_with (go_at_call 50; refine (HI.out).mono ?_; rintro e w1 ⟨r, rfl, hr, hb1⟩; have HR := Lib.hid hr; clear hr)
  go_ret
  exact ⟨ret_bool HR.out.any, hb1⟩

set_option maxHeartbeats 4000000 in
set_option maxRecDepth 100000 in
theorem impossible_any (v : Value) (u : SU) (w : World) (h : SupIs w v u) (hok : SUok u) :
    Calls Try.prog 73 #[v] w fun e w' => e = .returned (.bool (impB u)) ∧ Below w.heap.size w w' := by
  have h0 := h
  obtain ⟨vh, vb, vw, vs, rfl, hsl, hS, hb⟩ := h
  have hal := bal (Below.refl w.heap.size w) (.cells #[.bool u.r.choice, vh, .bool u.r.sum, .int .i64 u.r.bound, vb, vw, .int .i64 u.b, vs] 83)
  obtain ⟨a1, c1, rfl, -, hl1, -, -⟩ := hsl.head.form
  obtain ⟨a2, c2, rfl, -, hl2, -, -⟩ := hsl.body.form
  obtain ⟨a3, c3, rfl, -, hl3, -, -⟩ := hsl.wts.form
  obtain ⟨a4, c4, rfl, -, hl4, -, -⟩ := hS.form
  have HBK := Lib.hid (Blk.new w [.bool u.r.choice, .slice a1 u.r.head.length c1, .bool u.r.sum, .int .i64 u.r.bound, .slice a2 u.r.body.length c2, .slice a3 u.r.w.length c3, .int .i64 u.b, .slice a4 u.S.length c4] 83)
  have HB0 := Lib.hid (hsl.body.below hal)
  have H0 := Lib.hid (h0.below hal)
  have HAL := Lib.hid hal
  have HOK := Lib.hid hok
  have hbd := hok.bound
  clear hsl hS hal h0 hok
  cases hs : u.r.sum with
  | true =>
    have HF : Hid (impB u = decide (wgt u (fun _ => true) u.r.body.length < u.r.bound)) := Lib.hid (by unfold impB; rw [hs]; rfl)
    have HSM := Lib.hid hs
    have hwl := wgt_le HOK.out HSM.out (fun _ => true) u.r.body.length (Nat.le_refl _)
    have hsm := (HOK.out.wts HSM.out).2.2 u.r.body.length (by have := (HOK.out.wts HSM.out).1; omega)
    rw [hs] at HAL HBK H0 HB0
    clear hs
    go_enter Try.func73, Try.ntmps73
    go_upto_region 2 with fail
    generalize w.alloc (.cells #[.bool u.r.choice, .slice a1 u.r.head.length c1, .bool true, .int .i64 u.r.bound, .slice a2 u.r.body.length c2, .slice a3 u.r.w.length c3, .int .i64 u.b, .slice a4 u.S.length c4] 83) = W0 at *
    have kx : ∀ e : Ext W0, ∀ o, e.world.cell? ⟨w.heap.size, o, none⟩ = [Value.bool u.r.choice, .slice a1 u.r.head.length c1, .bool true, .int .i64 u.r.bound, .slice a2 u.r.body.length c2, .slice a3 u.r.w.length c3, .int .i64 u.b, .slice a4 u.S.length c4][o]? := fun e o => (bcell e.below _ o HBK.out.lt).trans (HBK.out.cell o)
    have HW : Hid (∀ e : Ext W0, Calls Try.prog 80 #[.agg #[.bool u.r.choice, .slice a1 u.r.head.length c1, .bool true, .int .i64 u.r.bound, .slice a2 u.r.body.length c2, .slice a3 u.r.w.length c3, .int .i64 u.b, .slice a4 u.S.length c4], .func (.func 98) #[] #[]] e.world fun e2 w' => e2 = .returned (.int .i64 (wgt u (fun _ => true) u.r.body.length)) ∧ Below e.world.heap.size e.world w') := Lib.hid (fun e => wgt_imp1 _ u _ (H0.out.below e.below) HOK.out HSM.out (fun _ => true) (fun w' _ l _ _ => (imp1_any w' l).mono fun e w'' ⟨e1, e2⟩ => ⟨e1, e2 ▸ Below.refl _ _⟩))
    have hzW : w.heap.size < W0.heap.size := HBK.out.lt
    refine wp_region_ext (by kernel_rfl) (by kernel_rfl) ?_
    repeat (go_big_quiet_step ((go_at_call 80; exact Calls.ext_of (HW.out _))))
    refine wpQuiet_nil ?_
    intro w9 hw'
    obtain ⟨e9, he9⟩ := hw'
    have hb9 := e9.below
    rw [← he9] at hb9
    clear he9 e9
    try dsimp only
    go_wp2
    go_ret
    exact ⟨ret_bool HF.out.symm, HAL.out.trans (hb9.mono (by omega))⟩
  | false =>
    have HF : Hid (impB u = anyR u.r.body.length (fun j => intB u.S (ix u.r.body j))) := Lib.hid (by unfold impB; rw [hs]; rfl)
    rw [hs] at HAL HBK H0 HB0
    clear hs
    go_enter Try.func73, Try.ntmps73
    go_upto_region 3 with fail
    have kx := HBK.out.cell
    generalize w.alloc (.cells #[.bool u.r.choice, .slice a1 u.r.head.length c1, .bool false, .int .i64 u.r.bound, .slice a2 u.r.body.length c2, .slice a3 u.r.w.length c3, .int .i64 u.b, .slice a4 u.S.length c4] 83) = W0 at *
    have hzW : w.heap.size < W0.heap.size := HBK.out.lt
    go_wp2_with (go_at_call 40; (with_reducible refine (ctn_int _ u.r.body W0 HB0.out (fun j => intB u.S (ix u.r.body j)) _ (fun w' hb' j _ => internal_any _ u _ w' (H0.out.below hb'))).mono ?_); rintro e w2 ⟨rfl, hb2⟩; have HB2 := Lib.hid hb2; clear hb2)
    go_ret
    exact ⟨ret_bool HF.out.symm, HAL.out.trans (HB2.out.mono (by omega))⟩

end Go.Proofs.Ytdoecchigfdilaa

/- loops: support.excluded, with Unfounded's closure. -/
namespace Go.Proofs.Ytdoecchigfdilaa
open Go.RowKit



/-- What excluded has boxed: the support, the closure, the assignment. -/
structure EnvU (w : World) (sb fb ab : Nat) (u : SU) (a : List Int) : Prop where
  sup : SupB w sb u
  fn : Blk w fb [.func (.func 32) #[] #[.pointer (some ⟨ab, 0, none⟩)]] 66
  asg : InU w ab a

theorem EnvU.below {w w' : World} {sb fb ab : Nat} {u : SU} {a : List Int} (h : EnvU w sb fb ab u a) (hb : Below w.heap.size w w') : EnvU w' sb fb ab u a := ⟨h.sup.below hb, h.fn.below hb, h.asg.below hb⟩

section
variable {w : World} {sb fb ab : Nat} {u : SU} {a : List Int}

set_option maxHeartbeats 1000000 in
theorem neg_in (h : EnvU w sb fb ab u a) (x : Int) (hx : 1 ≤ x ∧ x ≤ 1000000) :
    Calls Try.prog 78 #[.int .i64 x, .pointer (some ⟨fb, 0, none⟩)] w fun e w' => e = .returned (.bool (offB a (-x))) ∧ w = w' := by
  have kf := h.fn.cell 0
  have HI := Lib.hid (inU_any (-x) ab a w h.asg (by omega))
  clear h
  go_enter Try.func78, Try.ntmps78
  go_wp2_with (go_at_call 32; (with_reducible refine (HI.out).mono ?_); rintro e w1 ⟨rfl, rfl⟩)
  go_ret
  exact ⟨rfl, rfl⟩

set_option maxHeartbeats 1000000 in
theorem not_in (h : EnvU w sb fb ab u a) (x : Int) (hx : 1 ≤ x.natAbs ∧ x.natAbs ≤ 1000000) :
    Calls Try.prog 81 #[.int .i64 x, .pointer (some ⟨fb, 0, none⟩)] w fun e w' => e = .returned (.bool (!offB a x)) ∧ w = w' := by
  have kf := h.fn.cell 0
  have HI := Lib.hid (inU_any x ab a w h.asg hx)
  clear h
  go_enter Try.func81, Try.ntmps81
  go_wp2_with (go_at_call 32; (with_reducible refine (HI.out).mono ?_); rintro e w1 ⟨rfl, rfl⟩)
  go_ret
  exact ⟨rfl, rfl⟩

set_option maxHeartbeats 1000000 in
theorem ex1_any (h : EnvU w sb fb ab u a) (hok : SUok u) :
    Calls Try.prog 74 #[.pointer (some ⟨fb, 0, none⟩), .pointer (some ⟨sb, 0, none⟩)] w fun e w' => e = .returned (.bool (offB a u.b)) ∧ w = w' := by
  have kf := h.fn.cell 0
  obtain ⟨vh, vb, vw, vs, h0, -, -, -⟩ := h.sup
  have k6 := h0.cell 6
  have HI := Lib.hid (inU_any u.b ab a w h.asg (by have := hok.b; omega))
  clear h h0 hok
  go_enter Try.func74, Try.ntmps74
  go_wp2_with (go_at_call 32; (with_reducible refine (HI.out).mono ?_); rintro e w1 ⟨rfl, rfl⟩)
  go_ret
  exact ⟨rfl, rfl⟩
end

set_option maxHeartbeats 1000000 in
theorem idx_inU (v : Value) (l : List Int) (w : World) (h : Ints w v l) (g : Nat → Bool) (cap : Value)
    (hg : ∀ w', Below w.heap.size w w' → ∀ j, j < l.length → Calls Try.prog 32 #[.int .i64 (ix l j), cap] w' fun e w'' => e = .returned (.bool (g j)) ∧ Below w'.heap.size w' w'') :
    Calls Try.prog 50 #[v, .func (.func 32) #[] #[cap]] w fun e w' => ∃ r, e = .returned (.int .i64 r) ∧ IxP l.length g r ∧ Below w.heap.size w w' := by
  obtain ⟨a1, c1, rfl, -, hl1, -, hcell⟩ := h.form
  have HG := Lib.hid hg
  clear h hg
  go_enter Try.func50, Try.ntmps50
  go_wp2
  go_loopw [8] (fun i wx => IxR l.length g w i wx) (fun i _ => l.length - (intOf i).toNat)
  case atStart => exact ⟨0, by omega, rfl, fun j hj => absurd hj (Nat.not_lt_zero _), Below.refl _ _⟩
  case round =>
    obtain ⟨k, hk, rfl, hall, hb⟩ := hrel
    have HA := Lib.hid hall
    clear hall
    by_cases hlt : k < l.length
    · obtain ⟨b, off, rfl, hbl, hc⟩ := hcell (by omega)
      have hk1 := (bcell hb _ _ hbl).trans (hc k hlt)
      clear hc hcell
      cases g1 : g k with
      | true =>
        have HK : Hid (_ = true) := Lib.hid g1
        have HC := Lib.hid (HG.out _ hb k hlt)
        rw [g1] at HC
        clear g1
        go_wp2_with (go_at_call 32; refine (HC.out).mono ?_; rintro e w1 ⟨rfl, hb1⟩)
        go_ret
        exact ⟨_, rfl, .inr ⟨k, hlt, rfl, HK.out, HA.out⟩, bon hb hb1⟩
      | false =>
        have HN := Lib.hid (lt_succ_all HA.out g1)
        have HC := Lib.hid (HG.out _ hb k hlt)
        rw [g1] at HC
        clear g1
        go_wp2_with (go_at_call 32; refine (HC.out).mono ?_; rintro e w1 ⟨rfl, hb1⟩)
        first
          | (go_roundw
             case rel => (exact ⟨k + 1, by omega, by go_num, HN.out, bon hb hb1⟩)
             case measure => (simp [intOf]; omega))
          | (refine ⟨?_, ?_⟩
             · (exact ⟨k + 1, by omega, by go_num, HN.out, bon hb hb1⟩)
             · (simp [intOf]; omega))
    · have HN : Hid (∀ j, j < l.length → g j = false) := Lib.hid (fun j hj => HA.out j (by omega))
      go_wp2
      go_ret
      exact ⟨_, rfl, .inl ⟨rfl, HN.out⟩, hb⟩

set_option maxHeartbeats 1000000 in
theorem ctn_inU (v : Value) (l : List Int) (w : World) (h : Ints w v l) (g : Nat → Bool) (cap : Value)
    (hg : ∀ w', Below w.heap.size w w' → ∀ j, j < l.length → Calls Try.prog 32 #[.int .i64 (ix l j), cap] w' fun e w'' => e = .returned (.bool (g j)) ∧ Below w'.heap.size w' w'') :
    Calls Try.prog 40 #[v, .func (.func 32) #[] #[cap]] w fun e w' => e = .returned (.bool (anyR l.length g)) ∧ Below w.heap.size w w' := by
  have HI := Lib.hid (idx_inU v l w h g cap hg)
  obtain ⟨a1, c1, rfl, -⟩ := h.form
  clear h hg
  go_enter Try.func40, Try.ntmps40
  go_wp2_with (go_at_call 50; refine (HI.out).mono ?_; rintro e w1 ⟨r, rfl, hr, hb1⟩; have HR := Lib.hid hr; clear hr)
  go_ret
  exact ⟨ret_bool HR.out.any, hb1⟩
set_option maxHeartbeats 1000000 in
theorem idx_neg (v : Value) (l : List Int) (w : World) (h : Ints w v l) (g : Nat → Bool) (cap : Value)
    (hg : ∀ w', Below w.heap.size w w' → ∀ j, j < l.length → Calls Try.prog 78 #[.int .i64 (ix l j), cap] w' fun e w'' => e = .returned (.bool (g j)) ∧ Below w'.heap.size w' w'') :
    Calls Try.prog 50 #[v, .func (.func 78) #[] #[cap]] w fun e w' => ∃ r, e = .returned (.int .i64 r) ∧ IxP l.length g r ∧ Below w.heap.size w w' := by
  obtain ⟨a1, c1, rfl, -, hl1, -, hcell⟩ := h.form
  have HG := Lib.hid hg
  clear h hg
  go_enter Try.func50, Try.ntmps50
  go_wp2
  go_loopw [8] (fun i wx => IxR l.length g w i wx) (fun i _ => l.length - (intOf i).toNat)
  case atStart => exact ⟨0, by omega, rfl, fun j hj => absurd hj (Nat.not_lt_zero _), Below.refl _ _⟩
  case round =>
    obtain ⟨k, hk, rfl, hall, hb⟩ := hrel
    have HA := Lib.hid hall
    clear hall
    by_cases hlt : k < l.length
    · obtain ⟨b, off, rfl, hbl, hc⟩ := hcell (by omega)
      have hk1 := (bcell hb _ _ hbl).trans (hc k hlt)
      clear hc hcell
      cases g1 : g k with
      | true =>
        have HK : Hid (_ = true) := Lib.hid g1
        have HC := Lib.hid (HG.out _ hb k hlt)
        rw [g1] at HC
        clear g1
        go_wp2_with (go_at_call 78; refine (HC.out).mono ?_; rintro e w1 ⟨rfl, hb1⟩)
        go_ret
        exact ⟨_, rfl, .inr ⟨k, hlt, rfl, HK.out, HA.out⟩, bon hb hb1⟩
      | false =>
        have HN := Lib.hid (lt_succ_all HA.out g1)
        have HC := Lib.hid (HG.out _ hb k hlt)
        rw [g1] at HC
        clear g1
        go_wp2_with (go_at_call 78; refine (HC.out).mono ?_; rintro e w1 ⟨rfl, hb1⟩)
        first
          | (go_roundw
             case rel => (exact ⟨k + 1, by omega, by go_num, HN.out, bon hb hb1⟩)
             case measure => (simp [intOf]; omega))
          | (refine ⟨?_, ?_⟩
             · (exact ⟨k + 1, by omega, by go_num, HN.out, bon hb hb1⟩)
             · (simp [intOf]; omega))
    · have HN : Hid (∀ j, j < l.length → g j = false) := Lib.hid (fun j hj => HA.out j (by omega))
      go_wp2
      go_ret
      exact ⟨_, rfl, .inl ⟨rfl, HN.out⟩, hb⟩

set_option maxHeartbeats 1000000 in
theorem ctn_neg (v : Value) (l : List Int) (w : World) (h : Ints w v l) (g : Nat → Bool) (cap : Value)
    (hg : ∀ w', Below w.heap.size w w' → ∀ j, j < l.length → Calls Try.prog 78 #[.int .i64 (ix l j), cap] w' fun e w'' => e = .returned (.bool (g j)) ∧ Below w'.heap.size w' w'') :
    Calls Try.prog 40 #[v, .func (.func 78) #[] #[cap]] w fun e w' => e = .returned (.bool (anyR l.length g)) ∧ Below w.heap.size w w' := by
  have HI := Lib.hid (idx_neg v l w h g cap hg)
  obtain ⟨a1, c1, rfl, -⟩ := h.form
  clear h hg
  go_enter Try.func40, Try.ntmps40
  go_wp2_with (go_at_call 50; refine (HI.out).mono ?_; rintro e w1 ⟨r, rfl, hr, hb1⟩; have HR := Lib.hid hr; clear hr)
  go_ret
  exact ⟨ret_bool HR.out.any, hb1⟩
set_option maxHeartbeats 4000000 in
set_option maxRecDepth 100000 in
theorem wgt_not (v : Value) (u : SU) (w : World) (h : SupIs w v u) (hok : SUok u) (hs : u.r.sum = true) (g : Int → Bool) (cap : Value)
    (hg : ∀ w', Below w.heap.size w w' → ∀ l : Int, 1 ≤ l.natAbs → l.natAbs ≤ 1000000 → Calls Try.prog 81 #[.int .i64 l, cap] w' fun e w'' => e = .returned (.bool (g l)) ∧ Below w'.heap.size w' w'') :
    Calls Try.prog 80 #[v, .func (.func 81) #[] #[cap]] w fun e w' => e = .returned (.int .i64 (wgt u g u.r.body.length)) ∧ Below w.heap.size w w' := by
  have h0 := h
  obtain ⟨vh, vb, vw, vs, rfl, hsl, hS, hb⟩ := h
  have hal := bal (Below.refl w.heap.size w) (.cells #[.bool u.r.choice, vh, .bool u.r.sum, .int .i64 u.r.bound, vb, vw, .int .i64 u.b, vs] 83)
  obtain ⟨a1, c1, rfl, -, hl1, -, -⟩ := hsl.head.form
  obtain ⟨a2, c2, rfl, -, hl2, -, hcb⟩ := hsl.body.form
  obtain ⟨a3, c3, rfl, -, hl3, -, hcw⟩ := hsl.wts.form
  obtain ⟨a4, c4, rfl, -, hl4, -, -⟩ := hS.form
  have H0 := Lib.hid h0
  have HG := Lib.hid hg
  have HBK := Lib.hid (Blk.new w [.bool u.r.choice, .slice a1 u.r.head.length c1, .bool u.r.sum, .int .i64 u.r.bound, .slice a2 u.r.body.length c2, .slice a3 u.r.w.length c3, .int .i64 u.b, .slice a4 u.S.length c4] 83)
  have HCB := Lib.hid hcb
  have HCW := Lib.hid hcw
  have HOK := Lib.hid hok
  have HWS := Lib.hid (hok.wts hs)
  have hwl : u.r.w.length ≤ u.r.body.length ∧ u.r.body.length ≤ u.r.w.length := by have := (hok.wts hs).1; omega
  have HSM := Lib.hid hs
  clear h0 hsl hS hb hg hcb hcw hok hs
  go_enter Try.func80, Try.ntmps80
  go_upto_region 1 with fail
  have HAL := Lib.hid hal
  clear hal
  generalize w.alloc (.cells #[.bool u.r.choice, .slice a1 u.r.head.length c1, .bool u.r.sum, .int .i64 u.r.bound, .slice a2 u.r.body.length c2, .slice a3 u.r.w.length c3, .int .i64 u.b, .slice a4 u.S.length c4] 83) = W0 at *
  have kx := HBK.out.cell
  have hzW : w.heap.size < W0.heap.size := HBK.out.lt
  go_wp2_with fail
  clear kx
  go_loopw [5, 12] (fun s i wx => WgRel u g W0 s i wx) (fun _ i _ => u.r.body.length - (intOf i).toNat)
  case atStart => exact ⟨0, Nat.zero_le _, rfl, rfl, Below.refl _ _⟩
  case round =>
    obtain ⟨k, hk, rfl, rfl, hbx⟩ := hrel
    have HBX := Lib.hid hbx
    have hbw : Below w.heap.size w wr := HAL.out.trans (hbx.mono (by omega))
    have HBW := Lib.hid hbw
    have kx := fun o => (bcell hbx _ o HBK.out.lt).trans (HBK.out.cell o)
    have hz := hbx.size
    have hle := wgt_le HOK.out HSM.out g k hk
    have hsm := HWS.out.2.2 k (by omega)
    clear hbx
    by_cases hlt : k < u.r.body.length
    · obtain ⟨bb, offb, rfl, hbb, hcb⟩ := HCB.out (by omega)
      have kb := (bcell hbw _ _ hbb).trans (hcb k hlt)
      obtain ⟨bw, offw, rfl, hbw2, hcw⟩ := HCW.out (by omega)
      have hcw0 := hcw k (by omega)
      have kw := (bcell hbw _ _ hbw2).trans hcw0
      have hle2 := wgt_le HOK.out HSM.out g (k + 1) hlt
      have hsm2 := HWS.out.2.2 (k + 1) (by omega)
      have hl := HOK.out.lits k hlt
      have HIN := Lib.hid (internal_any _ u (ix u.r.body k) wr (H0.out.below hbw))
      have HST : Hid (wgt u g (k + 1) = wgt u g k + if !intB u.S (ix u.r.body k) && g (ix u.r.body k) then ix u.r.w k else 0) := Lib.hid rfl
      have hw1 := HWS.out.2.1 k (by omega)
      clear hcb hcw hbw
      cases hi : intB u.S (ix u.r.body k) with
      | true =>
        rw [hi] at HIN HST
        have HS2 : Hid (wgt u g (k + 1) = wgt u g k) := Lib.hid (by rw [HST.out]; simp)
        go_wp2_with (go_at_call 99; (with_reducible refine (HIN.out).mono ?_); rintro e w1 ⟨rfl, hb1⟩; have HB1 := Lib.hid (bon HBX.out hb1); clear hb1)
        first
          | (go_roundw
             case rel => (exact ⟨k + 1, by omega, by go_num, by rw [HS2.out], HB1.out⟩)
             case measure => (simp [intOf]; omega))
          | (refine ⟨?_, ?_⟩
             · (exact ⟨k + 1, by omega, by go_num, by rw [HS2.out], HB1.out⟩)
             · (simp [intOf]; omega))
      | false =>
        rw [hi] at HIN HST
        cases hgl : g (ix u.r.body k) with
        | false =>
          rw [hgl] at HST
          have HS2 : Hid (wgt u g (k + 1) = wgt u g k) := Lib.hid (by rw [HST.out]; simp)
          go_wp2_with (first | (go_at_call 81; (with_reducible refine (HG.out _ (bon HBW.out hb1) _ hl.1 hl.2).mono ?_); rintro e w2 ⟨e2, hb2⟩; rw [hgl] at e2; subst e2; have HB2 := Lib.hid (bon (bon HBX.out hb1) hb2)) | (go_at_call 99; (with_reducible refine (HIN.out).mono ?_); rintro e w1 ⟨rfl, hb1⟩; have kx1 := fun o => (bcell (bon HBX.out hb1) _ o HBK.out.lt).trans (HBK.out.cell o); have hz1 := hb1.size))
          first
            | (go_roundw
               case rel => (exact ⟨k + 1, by omega, by go_num, by rw [HS2.out], HB2.out⟩)
               case measure => (simp [intOf]; omega))
            | (refine ⟨?_, ?_⟩
               · (exact ⟨k + 1, by omega, by go_num, by rw [HS2.out], HB2.out⟩)
               · (simp [intOf]; omega))
        | true =>
          rw [hgl] at HST
          have HS2 : Hid (wgt u g (k + 1) = wgt u g k + ix u.r.w k) := Lib.hid (by rw [HST.out]; simp)
          have hs2 : wgt u g k + ix u.r.w k ≤ 1048576 := by rw [HS2.out] at hle2; omega
          go_wp2_with (first | (go_at_call 81; (with_reducible refine (HG.out _ (bon HBW.out hb1) _ hl.1 hl.2).mono ?_); rintro e w2 ⟨e2, hb2⟩; rw [hgl] at e2; subst e2; have HB2 := Lib.hid (bon (bon HBX.out hb1) hb2); have kw2 := (bcell (bon (bon HBW.out hb1) hb2) _ _ hbw2).trans hcw0; have kx2 := fun o => (bcell (bon (bon HBX.out hb1) hb2) _ o HBK.out.lt).trans (HBK.out.cell o); have hz2 := hb2.size) | (go_at_call 99; (with_reducible refine (HIN.out).mono ?_); rintro e w1 ⟨rfl, hb1⟩; have kx1 := fun o => (bcell (bon HBX.out hb1) _ o HBK.out.lt).trans (HBK.out.cell o); have hz1 := hb1.size))
          first
            | (go_roundw
               case rel => (exact ⟨k + 1, by omega, by go_num, by rw [HS2.out], HB2.out⟩)
               case measure => (simp [intOf]; omega))
            | (refine ⟨?_, ?_⟩
               · (exact ⟨k + 1, by omega, by go_num, by rw [HS2.out], HB2.out⟩)
               · (simp [intOf]; omega))
    · obtain rfl : k = u.r.body.length := by omega
      go_wp2_with fail
      go_ret
      exact ⟨rfl, HAL.out.trans (HBX.out.mono (by omega))⟩

def ex2 (u : SU) (a : List Int) : Bool := !u.r.sum && anyR u.r.body.length (fun j => offB a (ix u.r.body j))
def ex3 (u : SU) (a : List Int) : Bool := anyR (oth u).length (fun j => offB a (-(ix (oth u) j)))
def ex4 (u : SU) (a : List Int) : Bool := u.r.sum && decide (wgt u (fun l => !offB a l) u.r.body.length < u.r.bound)

theorem oth_mem {u : SU} {j : Nat} (hok : SUok u) (hj : j < (oth u).length) : 1 ≤ ix (oth u) j ∧ ix (oth u) j ≤ 1000000 := by
  have hm := ix_mem hj
  have : ix (oth u) j ∈ u.r.head := by
    generalize ix (oth u) j = x at *
    unfold oth at hm
    split at hm
    · simp at hm
    · unfold keepF at hm
      exact List.mem_of_mem_take (List.mem_filter.1 hm).1
  obtain ⟨k, hk, e⟩ := mem_ix.1 this
  have := hok.head k hk
  omega

section
variable {w : World} {sb fb ab : Nat} {u : SU} {a : List Int}

set_option maxHeartbeats 1000000 in
theorem ex2_any (h : EnvU w sb fb ab u a) (hok : SUok u) :
    Calls Try.prog 75 #[.pointer (some ⟨sb, 0, none⟩), .pointer (some ⟨fb, 0, none⟩)] w fun e w' => e = .returned (.bool (ex2 u a)) ∧ Below w.heap.size w w' := by
  have kf := h.fn.cell 0
  obtain ⟨vh, vb, vw, vs, h0, hsl, -, -⟩ := h.sup
  obtain ⟨a2, c2, rfl, -, hl2, -, -⟩ := hsl.body.form
  have ks := h0.cell
  have HA := Lib.hid h.asg
  have HB := Lib.hid hsl.body
  have HOK := Lib.hid hok
  clear h h0 hsl hok
  cases hs : u.r.sum with
  | true =>
    have HF : Hid (ex2 u a = false) := Lib.hid (by unfold ex2; rw [hs]; rfl)
    go_enter Try.func75, Try.ntmps75
    go_wp2
    go_ret
    exact ⟨ret_bool HF.out.symm, Below.refl _ _⟩
  | false =>
    have HF : Hid (ex2 u a = anyR u.r.body.length (fun j => offB a (ix u.r.body j))) := Lib.hid (by unfold ex2; rw [hs]; rfl)
    go_enter Try.func75, Try.ntmps75
    go_wp2_with (go_at_call 40; (with_reducible refine (ctn_inU _ u.r.body w HB.out (fun j => offB a (ix u.r.body j)) _ (fun w' hb' j hj => (inU_any _ ab a w' (HA.out.below hb') (HOK.out.lits j hj)).mono fun e w'' ⟨e1, e2⟩ => ⟨e1, e2 ▸ Below.refl _ _⟩)).mono ?_); rintro e w2 ⟨rfl, hb2⟩; have HB2 := Lib.hid hb2; clear hb2)
    go_ret
    exact ⟨ret_bool HF.out.symm, HB2.out⟩

set_option maxHeartbeats 1000000 in
theorem ex3_any (h : EnvU w sb fb ab u a) (hok : SUok u) :
    Calls Try.prog 76 #[.pointer (some ⟨sb, 0, none⟩), .pointer (some ⟨fb, 0, none⟩)] w fun e w' => e = .returned (.bool (ex3 u a)) ∧ Below w.heap.size w w' := by
  have HE := Lib.hid h
  obtain ⟨vh, vb, vw, vs, h0, hsl, hS, hb⟩ := h.sup
  have ks := h0.cell
  have HSU : Hid (SupIs w (.agg #[.bool u.r.choice, vh, .bool u.r.sum, .int .i64 u.r.bound, vb, vw, .int .i64 u.b, vs]) u) := Lib.hid ⟨_, _, _, _, rfl, hsl, hS, hb⟩
  have HOK := Lib.hid hok
  have hol : (oth u).length * 8 ≤ 140737488351232 := by
    have h1 := hok.hlen
    have h2 := keepF_le (fun x => decide (x ∈ u.S)) u.r.head u.r.head.length
    unfold oth
    split
    · simp
    · omega
  clear h h0 hsl hS hok
  go_enter Try.func76, Try.ntmps76
  go_wp2_with (first
    | (go_at_call 40; (with_reducible refine (ctn_neg _ (oth u) _ HO.out (fun j => offB a (-(ix (oth u) j))) _ (fun w' hb' j hj => (neg_in (HE.out.below (bon HB1.out hb')) _ (oth_mem HOK.out hj)).mono fun e w'' ⟨e1, e2⟩ => ⟨e1, e2 ▸ Below.refl _ _⟩)).mono ?_); rintro e w2 ⟨rfl, hb2⟩; have HB2 := Lib.hid (bon HB1.out hb2); clear hb2)
    | (go_at_call 77; (with_reducible refine (others_any _ u _ HSU.out).mono ?_); rintro e w1 ⟨a5, n5, c5, rfl, hq1, hb1⟩; have HO := Lib.hid (hq1.ints hol); have HB1 := Lib.hid hb1; have kf1 := (bcell hb1 _ 0 HE.out.fn.lt).trans (HE.out.fn.cell 0); clear hq1 hb1))
  go_ret
  exact ⟨rfl, HB2.out⟩
end

end Go.Proofs.Ytdoecchigfdilaa

/- loops: support.excluded, with Unfounded's closure: the fourth way, the list of ways. -/
namespace Go.Proofs.Ytdoecchigfdilaa
open Go.RowKit


section
variable {w : World} {sb fb ab : Nat} {u : SU} {a : List Int}

set_option maxHeartbeats 4000000 in
set_option maxRecDepth 100000 in
theorem ex4_any (h : EnvU w sb fb ab u a) (hok : SUok u) :
    Calls Try.prog 79 #[.pointer (some ⟨sb, 0, none⟩), .pointer (some ⟨fb, 0, none⟩)] w fun e w' => e = .returned (.bool (ex4 u a)) ∧ Below w.heap.size w w' := by
  have HE := Lib.hid h
  obtain ⟨vh, vb, vw, vs, h0, hsl, hS, hb⟩ := h.sup
  have kx : ∀ e : Ext w, ∀ o, e.world.cell? ⟨sb, o, none⟩ = [Value.bool u.r.choice, vh, .bool u.r.sum, .int .i64 u.r.bound, vb, vw, .int .i64 u.b, vs][o]? := fun e o => (bcell e.below _ o h0.lt).trans (h0.cell o)
  have ks := h0.cell
  have HSU : Hid (SupIs w (.agg #[.bool u.r.choice, vh, .bool u.r.sum, .int .i64 u.r.bound, vb, vw, .int .i64 u.b, vs]) u) := Lib.hid ⟨_, _, _, _, rfl, hsl, hS, hb⟩
  have HOK := Lib.hid hok
  have hbd := hok.bound
  clear h h0 hsl hS hok
  cases hs : u.r.sum with
  | true =>
    have HF : Hid (ex4 u a = decide (wgt u (fun l => !offB a l) u.r.body.length < u.r.bound)) := Lib.hid (by unfold ex4; rw [hs, Bool.true_and])
    have HSM := Lib.hid hs
    have hwl := wgt_le HOK.out HSM.out (fun l => !offB a l) u.r.body.length (Nat.le_refl _)
    have hsm := (HOK.out.wts HSM.out).2.2 u.r.body.length (by have := (HOK.out.wts HSM.out).1; omega)
    rw [hs] at HSU
    simp only [hs] at kx
    have HW : Hid (∀ e : Ext w, Calls Try.prog 80 #[.agg #[.bool u.r.choice, vh, .bool true, .int .i64 u.r.bound, vb, vw, .int .i64 u.b, vs], .func (.func 81) #[] #[.pointer (some ⟨fb, 0, none⟩)]] e.world fun e2 w' => e2 = .returned (.int .i64 (wgt u (fun l => !offB a l) u.r.body.length)) ∧ Below e.world.heap.size e.world w') := Lib.hid (fun e => wgt_not _ u _ (HSU.out.below e.below) HOK.out HSM.out (fun l => !offB a l) _ (fun w' hb' l h1 h2 => (not_in ((HE.out.below e.below).below hb') l ⟨h1, h2⟩).mono fun e w'' ⟨e1, e2⟩ => ⟨e1, e2 ▸ Below.refl _ _⟩))
    clear hs ks
    go_enter Try.func79, Try.ntmps79
    go_upto_region 1 with fail
    refine wp_region_ext (by kernel_rfl) (by kernel_rfl) ?_
    repeat (go_big_quiet_step ((go_at_call 80; exact Calls.ext_of (HW.out _))))
    refine wpQuiet_nil ?_
    intro w9 hw'
    obtain ⟨e9, he9⟩ := hw'
    have hb9 := e9.below
    rw [← he9] at hb9
    clear he9 e9
    try dsimp only
    go_wp2
    go_ret
    exact ⟨ret_bool HF.out.symm, hb9⟩
  | false =>
    have HF : Hid (ex4 u a = false) := Lib.hid (by unfold ex4; rw [hs, Bool.false_and])
    simp only [hs] at ks
    simp only [hs] at kx
    clear hs ks
    go_enter Try.func79, Try.ntmps79
    go_upto_region 1 with fail
    refine wp_region_ext (by kernel_rfl) (by kernel_rfl) ?_
    repeat (go_big_quiet_step (fail))
    refine wpQuiet_nil ?_
    intro w9 hw'
    obtain ⟨e9, he9⟩ := hw'
    have hb9 := e9.below
    rw [← he9] at hb9
    clear he9 e9
    try dsimp only
    go_wp2
    go_ret
    exact ⟨ret_bool HF.out.symm, hb9⟩
end

theorem ex5_imp {x : Value} {w : World} {b : Bool} (h : Calls Try.prog 73 #[x] w fun e w' => e = .returned (.bool b) ∧ Below w.heap.size w w') :
    Calls Try.prog 83 #[.func (.func 73) #[x] #[]] w fun e w' => e = .returned (.bool b) ∧ Below w.heap.size w w' := by
  have H := Lib.hid h
  clear h
  go_enter Try.func83, Try.ntmps83
  go_wp2_with (go_at_call 73; (with_reducible refine (H.out).mono ?_); rintro e w1 ⟨rfl, hb1⟩; have HB1 := Lib.hid hb1; clear hb1)
  go_ret
  exact ⟨rfl, HB1.out⟩
theorem ex5_1 {x y : Value} {w : World} {b : Bool} (h : Calls Try.prog 74 #[x, y] w fun e w' => e = .returned (.bool b) ∧ Below w.heap.size w w') :
    Calls Try.prog 83 #[.func (.func 74) #[] #[x, y]] w fun e w' => e = .returned (.bool b) ∧ Below w.heap.size w w' := by
  have H := Lib.hid h
  clear h
  go_enter Try.func83, Try.ntmps83
  go_wp2_with (go_at_call 74; (with_reducible refine (H.out).mono ?_); rintro e w1 ⟨rfl, hb1⟩; have HB1 := Lib.hid hb1; clear hb1)
  go_ret
  exact ⟨rfl, HB1.out⟩
theorem ex5_2 {x y : Value} {w : World} {b : Bool} (h : Calls Try.prog 75 #[x, y] w fun e w' => e = .returned (.bool b) ∧ Below w.heap.size w w') :
    Calls Try.prog 83 #[.func (.func 75) #[] #[x, y]] w fun e w' => e = .returned (.bool b) ∧ Below w.heap.size w w' := by
  have H := Lib.hid h
  clear h
  go_enter Try.func83, Try.ntmps83
  go_wp2_with (go_at_call 75; (with_reducible refine (H.out).mono ?_); rintro e w1 ⟨rfl, hb1⟩; have HB1 := Lib.hid hb1; clear hb1)
  go_ret
  exact ⟨rfl, HB1.out⟩
theorem ex5_3 {x y : Value} {w : World} {b : Bool} (h : Calls Try.prog 76 #[x, y] w fun e w' => e = .returned (.bool b) ∧ Below w.heap.size w w') :
    Calls Try.prog 83 #[.func (.func 76) #[] #[x, y]] w fun e w' => e = .returned (.bool b) ∧ Below w.heap.size w w' := by
  have H := Lib.hid h
  clear h
  go_enter Try.func83, Try.ntmps83
  go_wp2_with (go_at_call 76; (with_reducible refine (H.out).mono ?_); rintro e w1 ⟨rfl, hb1⟩; have HB1 := Lib.hid hb1; clear hb1)
  go_ret
  exact ⟨rfl, HB1.out⟩
theorem ex5_4 {x y : Value} {w : World} {b : Bool} (h : Calls Try.prog 79 #[x, y] w fun e w' => e = .returned (.bool b) ∧ Below w.heap.size w w') :
    Calls Try.prog 83 #[.func (.func 79) #[] #[x, y]] w fun e w' => e = .returned (.bool b) ∧ Below w.heap.size w w' := by
  have H := Lib.hid h
  clear h
  go_enter Try.func83, Try.ntmps83
  go_wp2_with (go_at_call 79; (with_reducible refine (H.out).mono ?_); rintro e w1 ⟨rfl, hb1⟩; have HB1 := Lib.hid hb1; clear hb1)
  go_ret
  exact ⟨rfl, HB1.out⟩

set_option maxHeartbeats 1000000 in
theorem idxF_any (p n : Nat) (fs : List Value) (w : World) (hn : n ≤ 1000) (h : Blk w p fs 32) (hl : fs.length = n) (g : Nat → Bool)
    (hg : ∀ w', Below w.heap.size w w' → ∀ j, j < n → ∀ v, fs[j]? = some v → Calls Try.prog 83 #[v] w' fun e w'' => e = .returned (.bool (g j)) ∧ Below w'.heap.size w' w'') :
    Calls Try.prog 102 #[.slice (some ⟨p, 0, none⟩) n n, .func (.func 83) #[] #[]] w fun e w' => ∃ r, e = .returned (.int .i64 r) ∧ IxP n g r ∧ Below w.heap.size w w' := by
  have HG := Lib.hid hg
  have HBK := Lib.hid h
  clear h hg
  go_enter Try.func102, Try.ntmps102
  go_wp2
  go_loopw [8] (fun i wx => IxR n g w i wx) (fun i _ => n - (intOf i).toNat)
  case atStart => exact ⟨0, by omega, rfl, fun j hj => absurd hj (Nat.not_lt_zero _), Below.refl _ _⟩
  case round =>
    obtain ⟨k, hk, rfl, hall, hb⟩ := hrel
    have HA := Lib.hid hall
    clear hall
    by_cases hlt : k < n
    · obtain ⟨v, hv⟩ : ∃ v, fs[k]? = some v := ⟨fs[k]'(by omega), List.getElem?_eq_getElem (by omega)⟩
      have hk1 : wr.cell? ⟨p, k, none⟩ = some v := (bcell hb _ _ HBK.out.lt).trans ((HBK.out.cell _).trans hv)
      have HC := Lib.hid (HG.out _ hb k hlt v hv)
      clear hv
      cases g1 : g k with
      | true =>
        have HK : Hid (_ = true) := Lib.hid g1
        rw [g1] at HC
        clear g1
        go_wp2_with (go_at_call 83; refine (HC.out).mono ?_; rintro e w1 ⟨rfl, hb1⟩)
        go_ret
        exact ⟨_, rfl, .inr ⟨k, hlt, rfl, HK.out, HA.out⟩, bon hb hb1⟩
      | false =>
        have HN := Lib.hid (lt_succ_all HA.out g1)
        rw [g1] at HC
        clear g1
        go_wp2_with (go_at_call 83; refine (HC.out).mono ?_; rintro e w1 ⟨rfl, hb1⟩)
        first
          | (go_roundw
             case rel => (exact ⟨k + 1, by omega, by go_num, HN.out, bon hb hb1⟩)
             case measure => (simp [intOf]; omega))
          | (refine ⟨?_, ?_⟩
             · (exact ⟨k + 1, by omega, by go_num, HN.out, bon hb hb1⟩)
             · (simp [intOf]; omega))
    · have HN : Hid (∀ j, j < n → g j = false) := Lib.hid (fun j hj => HA.out j (by omega))
      go_wp2
      go_ret
      exact ⟨_, rfl, .inl ⟨rfl, HN.out⟩, hb⟩

set_option maxHeartbeats 1000000 in
theorem ctnF_any (p n : Nat) (fs : List Value) (w : World) (hn : n ≤ 1000) (h : Blk w p fs 32) (hl : fs.length = n) (g : Nat → Bool)
    (hg : ∀ w', Below w.heap.size w w' → ∀ j, j < n → ∀ v, fs[j]? = some v → Calls Try.prog 83 #[v] w' fun e w'' => e = .returned (.bool (g j)) ∧ Below w'.heap.size w' w'') :
    Calls Try.prog 82 #[.slice (some ⟨p, 0, none⟩) n n, .func (.func 83) #[] #[]] w fun e w' => e = .returned (.bool (anyR n g)) ∧ Below w.heap.size w w' := by
  have HI := Lib.hid (idxF_any p n fs w hn h hl g hg)
  clear h hg
  go_enter Try.func82, Try.ntmps82
  go_wp2_with (go_at_call 102; refine (HI.out).mono ?_; rintro e w1 ⟨r, rfl, hr, hb1⟩; have HR := Lib.hid hr; clear hr)
  go_ret
  exact ⟨ret_bool HR.out.any, hb1⟩

/-- Whether the assignment excludes the support. -/
def exc (u : SU) (a : List Int) : Bool := impB u || offB a u.b || ex2 u a || ex3 u a || ex4 u a

def excG (u : SU) (a : List Int) : Nat → Bool
  | 0 => impB u
  | 1 => offB a u.b
  | 2 => ex2 u a
  | 3 => ex3 u a
  | _ => ex4 u a

theorem exc_any (u : SU) (a : List Int) : anyR 5 (excG u a) = exc u a := by
  have e : List.range 5 = [0, 1, 2, 3, 4] := rfl
  unfold anyR
  rw [e]
  simp [excG, exc, Bool.or_assoc]

theorem env_new {w : World} {vh vb vw vs : Value} {u : SU} {ab : Nat} {a : List Int} (h : SupIs w (.agg #[.bool u.r.choice, vh, .bool u.r.sum, .int .i64 u.r.bound, vb, vw, .int .i64 u.b, vs]) u) (ha : InU w ab a) :
    EnvU ((w.alloc (.cells #[.bool u.r.choice, vh, .bool u.r.sum, .int .i64 u.r.bound, vb, vw, .int .i64 u.b, vs] 83)).alloc (.cells #[.func (.func 32) #[] #[.pointer (some ⟨ab, 0, none⟩)]] 66)) w.heap.size (w.heap.size + 1) ab u a ∧
    Below w.heap.size w ((w.alloc (.cells #[.bool u.r.choice, vh, .bool u.r.sum, .int .i64 u.r.bound, vb, vw, .int .i64 u.b, vs] 83)).alloc (.cells #[.func (.func 32) #[] #[.pointer (some ⟨ab, 0, none⟩)]] 66)) := by
  obtain ⟨_, _, _, _, e, hsl, hS, hb⟩ := h
  simp only [Value.agg.injEq, Array.mk.injEq, List.cons.injEq, and_true] at e
  obtain ⟨-, rfl, -, -, rfl, rfl, -, rfl⟩ := e
  have hal := bal (Below.refl w.heap.size w) (.cells #[.bool u.r.choice, vh, .bool u.r.sum, .int .i64 u.r.bound, vb, vw, .int .i64 u.b, vs] 83)
  have hbk := Blk.new w [.bool u.r.choice, vh, .bool u.r.sum, .int .i64 u.r.bound, vb, vw, .int .i64 u.b, vs] 83
  have hsup : SupB _ w.heap.size u := ⟨vh, vb, vw, vs, hbk, hsl.below hal, hS.below hal, hb⟩
  have hz : (w.alloc (.cells #[.bool u.r.choice, vh, .bool u.r.sum, .int .i64 u.r.bound, vb, vw, .int .i64 u.b, vs] 83)).heap.size = w.heap.size + 1 := World.size_alloc ..
  have ha1 := ha.below hal
  generalize w.alloc (.cells #[.bool u.r.choice, vh, .bool u.r.sum, .int .i64 u.r.bound, vb, vw, .int .i64 u.b, vs] 83) = W1 at *
  have hal1 := bal (Below.refl W1.heap.size W1) (.cells #[.func (.func 32) #[] #[.pointer (some ⟨ab, 0, none⟩)]] 66)
  have hb1 := Blk.new W1 [.func (.func 32) #[] #[.pointer (some ⟨ab, 0, none⟩)]] 66
  rw [hz] at hb1
  exact ⟨⟨hsup.below hal1, hb1, ha1.below hal1⟩, hal.trans (hal1.mono (by omega))⟩

theorem ways_any {W : World} {x : Value} {sb fb ab : Nat} {u : SU} {a : List Int} (h : EnvU W sb fb ab u a) (hs : SupIs W x u) (hok : SUok u) :
    Calls Try.prog 82 #[.slice (some ⟨W.heap.size, 0, none⟩) 5 5, .func (.func 83) #[] #[]] (W.alloc (.cells #[.func (.func 73) #[x] #[], .func (.func 74) #[] #[.pointer (some ⟨fb, 0, none⟩), .pointer (some ⟨sb, 0, none⟩)], .func (.func 75) #[] #[.pointer (some ⟨sb, 0, none⟩), .pointer (some ⟨fb, 0, none⟩)], .func (.func 76) #[] #[.pointer (some ⟨sb, 0, none⟩), .pointer (some ⟨fb, 0, none⟩)], .func (.func 79) #[] #[.pointer (some ⟨sb, 0, none⟩), .pointer (some ⟨fb, 0, none⟩)]] 32)) fun e w' => e = .returned (.bool (exc u a)) ∧ Below W.heap.size W w' := by
  have hbk := Blk.new W [.func (.func 73) #[x] #[], .func (.func 74) #[] #[.pointer (some ⟨fb, 0, none⟩), .pointer (some ⟨sb, 0, none⟩)], .func (.func 75) #[] #[.pointer (some ⟨sb, 0, none⟩), .pointer (some ⟨fb, 0, none⟩)], .func (.func 76) #[] #[.pointer (some ⟨sb, 0, none⟩), .pointer (some ⟨fb, 0, none⟩)], .func (.func 79) #[] #[.pointer (some ⟨sb, 0, none⟩), .pointer (some ⟨fb, 0, none⟩)]] 32
  have hal := bal (Below.refl W.heap.size W) (.cells #[.func (.func 73) #[x] #[], .func (.func 74) #[] #[.pointer (some ⟨fb, 0, none⟩), .pointer (some ⟨sb, 0, none⟩)], .func (.func 75) #[] #[.pointer (some ⟨sb, 0, none⟩), .pointer (some ⟨fb, 0, none⟩)], .func (.func 76) #[] #[.pointer (some ⟨sb, 0, none⟩), .pointer (some ⟨fb, 0, none⟩)], .func (.func 79) #[] #[.pointer (some ⟨sb, 0, none⟩), .pointer (some ⟨fb, 0, none⟩)]] 32)
  refine (ctnF_any _ 5 _ _ (by omega) hbk rfl (excG u a) fun w' hb' j hj v hv => ?_).mono fun e w' ⟨he, hb'⟩ => ⟨by rw [he, exc_any], hal.trans (hb'.mono hal.size)⟩
  have hbw := hal.trans (hb'.mono hal.size)
  have hE := h.below hbw
  match j, hj, hv with
  | 0, _, hv => cases hv; exact ex5_imp (impossible_any _ _ _ (hs.below hbw) hok)
  | 1, _, hv => cases hv; exact ex5_1 ((ex1_any hE hok).mono fun e w'' ⟨e1, e2⟩ => ⟨e1, e2 ▸ Below.refl _ _⟩)
  | 2, _, hv => cases hv; exact ex5_2 (ex2_any hE hok)
  | 3, _, hv => cases hv; exact ex5_3 (ex3_any hE hok)
  | 4, _, hv => cases hv; exact ex5_4 (ex4_any hE hok)

set_option maxHeartbeats 4000000 in
set_option maxRecDepth 100000 in
theorem excluded_any (v : Value) (u : SU) (ab : Nat) (a : List Int) (w : World) (h : SupIs w v u) (hok : SUok u) (ha : InU w ab a) :
    Calls Try.prog 53 #[v, .func (.func 32) #[] #[.pointer (some ⟨ab, 0, none⟩)]] w fun e w' => e = .returned (.bool (exc u a)) ∧ Below w.heap.size w w' := by
  have h0 := h
  obtain ⟨vh, vb, vw, vs, rfl, -, -, -⟩ := h
  obtain ⟨hE, hal⟩ := env_new h0 ha
  have hw := ways_any hE (h0.below hal) hok
  simp only [World.size_alloc] at hw
  have HW := Lib.hid hw
  have HAL := Lib.hid hal
  clear hw hal hE h0 ha hok
  go_enter Try.func53, Try.ntmps53
  go_upto_region 2 with fail
  go_wp2_with (go_at_call 82; (with_reducible refine HW.out.mono ?_); rintro e w2 ⟨rfl, hb2⟩; have HB2 := Lib.hid hb2; clear hb2)
  go_ret
  exact ⟨rfl, HAL.out.trans (HB2.out.mono (by omega))⟩

end Go.Proofs.Ytdoecchigfdilaa

/- loops: the iterator supports$1. -/
namespace Go.Proofs.Ytdoecchigfdilaa
open Go.RowKit
attribute [local go_sem] Oper.semAt_some


set_option maxHeartbeats 1000000 in
theorem sup11_any (S : List Int) (b : Nat) (vs : Value) (x : Int) (w : World) (h : Blk w b [vs] 23) (hS : Ints w vs S) :
    Calls Try.prog 72 #[.int .i64 x, .pointer (some ⟨b, 0, none⟩)] w fun e w' => e = .returned (.bool (decide (x ∈ S))) ∧ w = w' := by
  obtain ⟨a4, c4, rfl, -, hl4, -, -⟩ := hS.form
  have k0 := h.cell 0
  have HS := Lib.hid hS
  clear h hS
  go_enter Try.func72, Try.ntmps72
  go_wp2_with (go_at_call 60; (with_reducible refine (contains_any _ _ x _ HS.out).mono ?_); rintro e w1 ⟨rfl, rfl⟩)
  go_ret
  exact ⟨rfl, rfl⟩

set_option maxHeartbeats 1000000 in
theorem idx_sup (v : Value) (l : List Int) (w : World) (h : Ints w v l) (g : Nat → Bool) (cap : Value)
    (hg : ∀ w', Below w.heap.size w w' → ∀ j, j < l.length → Calls Try.prog 72 #[.int .i64 (ix l j), cap] w' fun e w'' => e = .returned (.bool (g j)) ∧ Below w'.heap.size w' w'') :
    Calls Try.prog 50 #[v, .func (.func 72) #[] #[cap]] w fun e w' => ∃ r, e = .returned (.int .i64 r) ∧ IxP l.length g r ∧ Below w.heap.size w w' := by
  obtain ⟨a1, c1, rfl, -, hl1, -, hcell⟩ := h.form
  have HG := Lib.hid hg
  clear h hg
  go_enter Try.func50, Try.ntmps50
  go_wp2
  go_loopw [8] (fun i wx => IxR l.length g w i wx) (fun i _ => l.length - (intOf i).toNat)
  case atStart => exact ⟨0, by omega, rfl, fun j hj => absurd hj (Nat.not_lt_zero _), Below.refl _ _⟩
  case round =>
    obtain ⟨k, hk, rfl, hall, hb⟩ := hrel
    have HA := Lib.hid hall
    clear hall
    by_cases hlt : k < l.length
    · obtain ⟨b, off, rfl, hbl, hc⟩ := hcell (by omega)
      have hk1 := (bcell hb _ _ hbl).trans (hc k hlt)
      clear hc hcell
      cases g1 : g k with
      | true =>
        have HK : Hid (_ = true) := Lib.hid g1
        have HC := Lib.hid (HG.out _ hb k hlt)
        rw [g1] at HC
        clear g1
        go_wp2_with (go_at_call 72; refine (HC.out).mono ?_; rintro e w1 ⟨rfl, hb1⟩)
        go_ret
        exact ⟨_, rfl, .inr ⟨k, hlt, rfl, HK.out, HA.out⟩, bon hb hb1⟩
      | false =>
        have HN := Lib.hid (lt_succ_all HA.out g1)
        have HC := Lib.hid (HG.out _ hb k hlt)
        rw [g1] at HC
        clear g1
        go_wp2_with (go_at_call 72; refine (HC.out).mono ?_; rintro e w1 ⟨rfl, hb1⟩)
        first
          | (go_roundw
             case rel => (exact ⟨k + 1, by omega, by go_num, HN.out, bon hb hb1⟩)
             case measure => (simp [intOf]; omega))
          | (refine ⟨?_, ?_⟩
             · (exact ⟨k + 1, by omega, by go_num, HN.out, bon hb hb1⟩)
             · (simp [intOf]; omega))
    · have HN : Hid (∀ j, j < l.length → g j = false) := Lib.hid (fun j hj => HA.out j (by omega))
      go_wp2
      go_ret
      exact ⟨_, rfl, .inl ⟨rfl, HN.out⟩, hb⟩

set_option maxHeartbeats 1000000 in
theorem ctn_sup (v : Value) (l : List Int) (w : World) (h : Ints w v l) (g : Nat → Bool) (cap : Value)
    (hg : ∀ w', Below w.heap.size w w' → ∀ j, j < l.length → Calls Try.prog 72 #[.int .i64 (ix l j), cap] w' fun e w'' => e = .returned (.bool (g j)) ∧ Below w'.heap.size w' w'') :
    Calls Try.prog 40 #[v, .func (.func 72) #[] #[cap]] w fun e w' => e = .returned (.bool (anyR l.length g)) ∧ Below w.heap.size w w' := by
  have HI := Lib.hid (idx_sup v l w h g cap hg)
  obtain ⟨a1, c1, rfl, -⟩ := h.form
  clear h hg
  go_enter Try.func40, Try.ntmps40
  go_wp2_with (go_at_call 50; refine (HI.out).mono ?_; rintro e w1 ⟨r, rfl, hr, hb1⟩; have HR := Lib.hid hr; clear hr)
  go_ret
  exact ⟨ret_bool HR.out.any, hb1⟩

/-- A head of the rule lies in the set. -/
def headIn (S : List Int) (r : GR) : Bool := anyR r.head.length (fun j => decide (ix r.head j ∈ S))

def supAt (p : GP) (S : List Int) (k : Nat) : SU := ⟨ixR p.rules k, bodyI p k, S⟩

/-- The supports among the first k rules. -/
def supsTo (p : GP) (S : List Int) : Nat → List SU
  | 0 => []
  | k + 1 => if headIn S (ixR p.rules k) then supsTo p S k ++ [supAt p S k] else supsTo p S k

theorem supsTo_len (p : GP) (S : List Int) : ∀ k, (supsTo p S k).length ≤ k
  | 0 => by simp [supsTo]
  | k + 1 => by
    have := supsTo_len p S k
    unfold supsTo
    split
    · simp; omega
    · omega

/-- A support as a value of the world in which the program was handed over. -/
abbrev SupV (w : World) := { x : Value × SU // SupIs w x.1 x.2 ∧ SUok x.2 }
def sus {w : World} (l : List (SupV w)) : List SU := l.map (·.1.2)
theorem sus_snoc {w : World} (l : List (SupV w)) (x : SupV w) : sus (l ++ [x]) = sus l ++ [x.1.2] := by simp [sus]
theorem sus_len {w : World} (l : List (SupV w)) : (sus l).length = l.length := by simp [sus]

/-- What the iterator leans on. -/
structure SupSt (wi w : World) (p : GP) (S : List Int) (pb sb : Nat) (vn vs vr vm vset : Value) : Prop where
  below : Below wi.heap.size wi w
  pb : Blk w pb [.int .i64 p.n, vn, vs, vr, vm] 27
  sb : Blk w sb [vset] 23

theorem SupSt.on {wi w w' : World} {p : GP} {S : List Int} {pb sb : Nat} {vn vs vr vm vset : Value} (h : SupSt wi w p S pb sb vn vs vr vm vset) (hb : Below w.heap.size w w') : SupSt wi w' p S pb sb vn vs vr vm vset :=
  ⟨h.below.trans (hb.mono h.below.size), h.pb.below hb, h.sb.below hb⟩

theorem SupSt.lim {wi w0 w w' : World} {p : GP} {S : List Int} {pb sb rb : Nat} {vn vs vr vm vset : Value} (h : SupSt wi w p S pb sb vn vs vr vm vset) (hl : Lim w0.heap.size [rb] w w') (hN : wi.heap.size ≤ w0.heap.size) (hrb : wi.heap.size ≤ rb) (hp : pb < w0.heap.size ∧ pb ≠ rb) (hs : sb < w0.heap.size ∧ sb ≠ rb) : SupSt wi w' p S pb sb vn vs vr vm vset :=
  ⟨h.below.trans ((hl.mono hN (fun i hi _ => hi)).below (fun i hi => by simp only [List.mem_singleton] at hi; omega)), h.pb.same (hl.block _ hp.1 (by simpa using hp.2)), h.sb.same (hl.block _ hs.1 (by simpa using hs.2))⟩

theorem grown_of_below {w w' : World} (h : Below w.heap.size w w') : w.grownBy w' none := ⟨h.os, h.tape, h.output, h.size, fun k hk _ => h.block k hk⟩

theorem AbidesFrom.below {β : Type} {B : Nat} {J : β → World → Prop} (h : AbidesFrom B J) {s : β} {w w' : World} (hs : J s w) (hb : Below w.heap.size w w') : J s w' :=
  h s w w' none hs (grown_of_below hb) (fun r e => by cases e)

end Go.Proofs.Ytdoecchigfdilaa

/- loops: the iterator supports$1: its contract. -/
namespace Go.Proofs.Ytdoecchigfdilaa
open Go.RowKit

attribute [local go_sem] Oper.semAt_some

theorem yieldEnd {e : Ending} {A B : Prop} (h : (e = .returned (.bool true) ∧ A) ∨ (e = .returned (.bool false) ∧ B)) : ∃ b, e = .returned (.bool b) ∧ (b = true → A) ∧ (b = false → B) := by
  rcases h with ⟨rfl, h⟩ | ⟨rfl, h⟩
  · exact ⟨true, rfl, fun _ => h, fun e => (Bool.noConfusion e)⟩
  · exact ⟨false, rfl, (fun e => Bool.noConfusion e), fun _ => h⟩

def SupSlots (wi : World) (p : GP) (S : List Int) (n0 : Nat) (W0 : World) (rb : Nat) (J : List (SupV wi) → World → Prop) (i : Value) (wr : World) : Prop :=
  ∃ (k : Nat) (pre : List (SupV wi)), k ≤ p.rules.length ∧ i = .int .i64 k ∧ sus pre = supsTo p S k ∧ J pre wr ∧ Lim n0 [rb] W0 wr

set_option maxHeartbeats 4000000 in
set_option maxRecDepth 100000 in
theorem sups_stops (p : GP) (S : List Int) (wi w0 : World) (vn vs vr vm vset : Value) (hP : ProgIs wi (.agg #[.int .i64 p.n, vn, vs, vr, vm]) p) (hS : Ints wi vset S) (rb pb sb : Nat)
    (hst : SupSt wi w0 p S pb sb vn vs vr vm vset) (hrb : wi.heap.size ≤ rb) (hne : pb ≠ rb ∧ sb ≠ rb) (hok : ∀ k, k < p.rules.length → SUok (supAt p S k)) (n : Nat) (hn : 1 ≤ n) :
    SeqStopsK Fence.wide n Try.prog 71 #[.pointer (some ⟨pb, 0, none⟩), .pointer (some ⟨sb, 0, none⟩)] (fun x : SupV wi => #[x.1.1]) (Lim w0.heap.size [rb])
      (fun xs => sus xs = supsTo p S p.rules.length) (fun pre => ∃ k, k ≤ p.rules.length ∧ sus pre = supsTo p S k) p.rules.length w0 := by
  intro l J Jx W hW hJ hJx hY h0
  obtain ⟨vn', vs', vr', vm', e, hPS⟩ := hP
  simp only [Value.agg.injEq, Array.mk.injEq, List.cons.injEq, and_true] at e
  obtain ⟨-, rfl, rfl, rfl, rfl⟩ := e
  obtain ⟨a1, c1, rfl, -, hl1, -, hcell⟩ := hPS.rules.form
  have hP : Hid (ProgIs wi (.agg #[.int .i64 p.n, vn, vs, .slice a1 p.rules.length c1, vm]) p) := Lib.hid ⟨_, _, _, _, rfl, hPS⟩
  obtain ⟨a4, c4, rfl, -, hl4, -, -⟩ := hS.form
  have HS := Lib.hid hS
  have HST := Lib.hid hst
  have HOK := Lib.hid hok
  have HY := Lib.hid hY
  have HJ := Lib.hid hJ
  have HJX := Lib.hid hJx
  have H0 := Lib.hid h0
  have HW := Lib.hid hW
  have HCELL := Lib.hid hcell
  have HPS := Lib.hid hPS
  have hpbl := hst.pb.lt
  have hsbl := hst.sb.lt
  have hN := hst.below.size
  have HSW : Hid (SupSt wi W p S pb sb vn vs (.slice a1 p.rules.length c1) vm (.slice a4 S.length c4)) := Lib.hid (hst.on hW)
  have kp := HSW.out.pb.cell
  have hzW := hW.size
  clear hS hst hok hY hJ hJx h0 hW hcell hPS
  refine callsIn_of_wp Try.func71 rfl trivial ?_ rfl
  simp only [Try.ntmps71, List.size_toArray, List.length_cons, List.length_nil, Nat.reduceAdd, Nat.reduceSub, Array.replicate_succ, Array.replicate_zero, List.push_toArray, List.append_toArray, List.nil_append, List.cons_append]
  gi_wp2
  clear kp
  gi_loopw [9] (fun i wr => SupSlots wi p S w0.heap.size W rb J i wr) (fun i _ => p.rules.length - (intOf i).toNat)
  case atStart => exact ⟨0, [], Nat.zero_le _, rfl, rfl, H0.out, Lim.refl _ _ _⟩
  case round =>
    obtain ⟨k, pre, hk, rfl, hpre, hj, hlim⟩ := hrel
    have HJR := Lib.hid hj
    have HPRE := Lib.hid hpre
    have HLIM := Lib.hid hlim
    have HSR : Hid (SupSt wi wr p S pb sb vn vs (.slice a1 p.rules.length c1) vm (.slice a4 S.length c4)) := Lib.hid (HSW.out.lim hlim (by omega) hrb (by omega) (by omega))
    clear hj hpre hlim
    by_cases hlt : k < p.rules.length
    · obtain ⟨b, off, rfl, hbl, hc⟩ := HCELL.out (by omega)
      obtain ⟨vh, vb, vw, ⟨k0, k1, k2, k3, k4, k5⟩, hsl⟩ := hc k hlt
      have hbw := HSR.out.below
      have hk0 := (bcell hbw _ _ hbl).trans k0
      have hk1 := (bcell hbw _ _ hbl).trans k1
      have hk2 := (bcell hbw _ _ hbl).trans k2
      have hk3 := (bcell hbw _ _ hbl).trans k3
      have hk4 := (bcell hbw _ _ hbl).trans k4
      have hk5 := (bcell hbw _ _ hbl).trans k5
      have HSL := Lib.hid hsl
      obtain ⟨ah, ch, rfl, -, hlh, -, -⟩ := hsl.head.form
      obtain ⟨ab, cb, rfl, -, hlb, -, -⟩ := hsl.body.form
      obtain ⟨aw, cw, rfl, -, hlw, -, -⟩ := hsl.wts.form
      clear hc k0 k1 k2 k3 k4 k5 hsl hbw
      have hal := bal (Below.refl wr.heap.size wr) (.cells #[.bool (ixR p.rules k).choice, .slice ah (ixR p.rules k).head.length ch, .bool (ixR p.rules k).sum, .int .i64 (ixR p.rules k).bound, .slice ab (ixR p.rules k).body.length cb, .slice aw (ixR p.rules k).w.length cw] 41)
      have hbr := Blk.new wr [.bool (ixR p.rules k).choice, .slice ah (ixR p.rules k).head.length ch, .bool (ixR p.rules k).sum, .int .i64 (ixR p.rules k).bound, .slice ab (ixR p.rules k).body.length cb, .slice aw (ixR p.rules k).w.length cw] 41
      have hj1 := (AbidesFrom.below HJ.out HJR.out hal)
      have hs1 := HSR.out.on hal
      have hl1' : Lim w0.heap.size [rb] W (wr.alloc (.cells #[.bool (ixR p.rules k).choice, .slice ah (ixR p.rules k).head.length ch, .bool (ixR p.rules k).sum, .int .i64 (ixR p.rules k).bound, .slice ab (ixR p.rules k).body.length cb, .slice aw (ixR p.rules k).w.length cw] 41)) := HLIM.out.trans (.of_below hal (Nat.le_trans hzW HLIM.out.size))
      gi_wp2_with fail
      generalize wr.alloc (.cells #[.bool (ixR p.rules k).choice, .slice ah (ixR p.rules k).head.length ch, .bool (ixR p.rules k).sum, .int .i64 (ixR p.rules k).bound, .slice ab (ixR p.rules k).body.length cb, .slice aw (ixR p.rules k).w.length cw] 41) = W1 at *
      have HBR := Lib.hid hbr
      have HS1 := Lib.hid hs1
      have HJ1 := Lib.hid hj1
      have HL1 := Lib.hid hl1'
      have hzr := hal.size
      have hzl := HLIM.out.size
      clear hal hbr hs1 hj1 hl1' hk0 hk1 hk2 hk3 hk4 hk5
      have hdr : Below W1.heap.size W1 W1.drew := (Below.refl _ _).drew
      have HDR := Lib.hid hdr
      have HSD := Lib.hid (HS1.out.on hdr)
      have hk1 := HBR.out.cell
      have hp1 := HS1.out.pb.cell
      have hq1 := HS1.out.sb.cell
      have HCA : Hid (∀ W2, Below W1.heap.size W1 W2 → Calls Try.prog 40 #[.slice ah (ixR p.rules k).head.length ch, .func (.func 72) #[] #[.pointer (some ⟨sb, 0, none⟩)]] W2 fun e w' => e = .returned (.bool (headIn S (ixR p.rules k))) ∧ Below W2.heap.size W2 w') :=
        Lib.hid (fun W2 h2 => ctn_sup _ (ixR p.rules k).head W2 (HSL.out.head.below (HS1.out.on h2).below) (fun j => decide (ix (ixR p.rules k).head j ∈ S)) _ (fun w' hb' j _ => (sup11_any S sb _ _ w' (((HS1.out.on h2).on hb').sb) (HS.out.below ((HS1.out.on h2).on hb').below)).mono fun e w'' ⟨e1, e2⟩ => ⟨e1, e2 ▸ Below.refl _ _⟩))
      have hki : InI (k : Int) := by unfold InI; omega
      have HLEN : Hid (pre.length < p.rules.length) := Lib.hid (by
        have h1 := supsTo_len p S k
        rw [← HPRE.out, sus_len] at h1
        omega)
      have HBI : Hid (InI (bodyI p k)) := Lib.hid (by have h1 : 1 ≤ bodyI p k ∧ bodyI p k ≤ 1000000 := (HOK.out k hlt).b; unfold InI; omega)
      have HX : Hid (SupIs wi (.agg #[.bool (ixR p.rules k).choice, .slice ah (ixR p.rules k).head.length ch, .bool (ixR p.rules k).sum, .int .i64 (ixR p.rules k).bound, .slice ab (ixR p.rules k).body.length cb, .slice aw (ixR p.rules k).w.length cw, .int .i64 (bodyI p k), .slice a4 S.length c4]) (supAt p S k)) := Lib.hid ⟨_, _, _, _, rfl, HSL.out, HS.out, HBI.out⟩
      cases hh : headIn S (ixR p.rules k) with
      | false =>
        have HST2 : Hid (supsTo p S (k + 1) = supsTo p S k) := Lib.hid (by rw [supsTo, hh]; rfl)
        rw [hh] at HCA
        clear hh hk1 hp1 hq1
        have kx := fun (e : Ext W1) (o : Nat) => (bcell e.below _ o HBR.out.lt).trans (HBR.out.cell o)
        refine wpIn_wide.2 ?_
        refine wp_region_ext (by kernel_rfl) (by kernel_rfl) ?_
        repeat (go_big_quiet_step ((go_at_call 40; exact Calls.ext_of (HCA.out _ (Ext.below _)))))
        refine wpQuiet_nil ?_
        intro w9 hw'
        obtain ⟨e9, he9⟩ := hw'
        have hb9 := e9.below
        rw [← he9] at hb9
        clear he9 e9
        try dsimp only
        have HB9 := Lib.hid hb9
        clear hb9
        gi_wp2
        first
          | (go_roundw
             case rel => (exact ⟨k + 1, pre, by omega, by go_num, by rw [HPRE.out, HST2.out], AbidesFrom.below HJ.out HJ1.out HB9.out, HL1.out.trans (.of_below HB9.out (by omega))⟩)
             case measure => (simp [intOf]; omega))
          | (refine ⟨?_, ?_⟩
             · (exact ⟨k + 1, pre, by omega, by go_num, by rw [HPRE.out, HST2.out], AbidesFrom.below HJ.out HJ1.out HB9.out, HL1.out.trans (.of_below HB9.out (by omega))⟩)
             · (simp [intOf]; omega))
      | true =>
        have HST2 : Hid (supsTo p S (k + 1) = supsTo p S k ++ [supAt p S k]) := Lib.hid (by rw [supsTo, hh]; rfl)
        have HC := Lib.hid (HCA.out _ hdr)
        rw [hh] at HC
        clear hh
        gi_region_with (first
          | (refine ⟨trivial, ?_⟩; gi_at_call 40; refine (callsIn_wide.2 HC.out).mono ?_; rintro e w1 ⟨rfl, hb1⟩; have HSE := Lib.hid (HSD.out.on hb1); have kp1 := HSE.out.pb.cell; have ks1 := HSE.out.sb.cell; have kr1 := (HBR.out.drew.below hb1).cell; have HB1 := Lib.hid hb1; clear hb1)
          | (refine ⟨trivial, ?_⟩; gi_at_call 70; refine (callsIn_wide.2 (body_any _ p _ (hP.out.below HSE.out.below) (k : Int) hki)).mono ?_; rintro e w2 ⟨rfl, hb2⟩; have HSF := Lib.hid (HSE.out.on hb2); have ks2 := HSF.out.sb.cell; have kr2 := ((HBR.out.drew.below HB1.out).below hb2).cell; have HB2 := Lib.hid (HDR.out.trans (bon HB1.out hb2)); have HJ2 := Lib.hid (AbidesFrom.below HJ.out HJ1.out HB2.out); clear hb2; obtain ⟨fn, tmps, assign, body, hy, hR⟩ := HY.out pre ⟨(_, supAt p S k), HX.out, HOK.out k hlt⟩ w2 HJ2.out HLEN.out; dsimp only at hy)
          | (refine hR.mono ?_; rintro e W3 h3; obtain ⟨bb, rfl, hbt, hbf⟩ := yieldEnd h3; have HBT := Lib.hid hbt; have HBF := Lib.hid hbf; clear hbt hbf h3))
        all_goals (cases bb with
          | false =>
            gi_wp2
            refine bodyPost_ret (results_none rfl _ _ _) rfl ?_
            exact ⟨⟨_, rfl⟩, .inr ⟨pre ++ [_], ⟨k + 1, hlt, by rw [sus_snoc, HPRE.out, HST2.out]⟩, HBF.out (by first | exact rfl | exact trivial)⟩⟩
          | true =>
            gi_wp2
            first
              | (go_roundw
                 case rel => (exact ⟨k + 1, pre ++ [_], hlt, by go_num, by rw [sus_snoc, HPRE.out, HST2.out], (HBT.out (by first | exact rfl | exact trivial)).1, (HL1.out.trans (.of_below HB2.out (by omega))).trans (HBT.out (by first | exact rfl | exact trivial)).2⟩)
                 case measure => (simp [intOf]; omega))
              | (refine ⟨?_, ?_⟩
                 · (exact ⟨k + 1, pre ++ [_], hlt, by go_num, by rw [sus_snoc, HPRE.out, HST2.out], (HBT.out (by first | exact rfl | exact trivial)).1, (HL1.out.trans (.of_below HB2.out (by omega))).trans (HBT.out (by first | exact rfl | exact trivial)).2⟩)
                 · (simp [intOf]; omega)))
    · gi_wp2
      go_end0
      obtain rfl : k = p.rules.length := by omega
      exact ⟨⟨_, rfl⟩, .inl ⟨pre, HPRE.out, HJR.out⟩⟩

end Go.Proofs.Ytdoecchigfdilaa

/- loops: all: a range over the supports. -/
namespace Go.Proofs.Ytdoecchigfdilaa
open Go.RowKit Go.Shelf
attribute [local go_sem] Oper.semAt_some

set_option maxHeartbeats 1000000 in
theorem supports_any (n : Int) (vn vs vm : Value) (r4 a4 : Option Addr) (n3 c3 n4 c4 : Nat) (w : World) :
    Calls Try.prog 52 #[.agg #[.int .i64 n, vn, vs, (.slice r4 n3 c3), vm], (.slice a4 n4 c4)] w fun e w' => e = .returned (.func (.func 71) #[] #[.pointer (some ⟨w.heap.size, 0, none⟩), .pointer (some ⟨w.heap.size + 1, 0, none⟩)]) ∧
      Below w.heap.size w w' ∧ Blk w' w.heap.size [.int .i64 n, vn, vs, (.slice r4 n3 c3), vm] 27 ∧ Blk w' (w.heap.size + 1) [(.slice a4 n4 c4)] 23 := by
  have h1 := Blk.new w [.int .i64 n, vn, vs, (.slice r4 n3 c3), vm] 27
  have hb : Below w.heap.size w ((w.alloc (.cells #[.int .i64 n, vn, vs, (.slice r4 n3 c3), vm] 27)).alloc (.cells #[(.slice a4 n4 c4)] 23)) := bal (bal (Below.refl _ _) _) _
  have h2 : Blk ((w.alloc (.cells #[.int .i64 n, vn, vs, (.slice r4 n3 c3), vm] 27)).alloc (.cells #[(.slice a4 n4 c4)] 23)) w.heap.size [.int .i64 n, vn, vs, (.slice r4 n3 c3), vm] 27 := h1.alloc _
  have h3 := Blk.new2 w (.cells #[.int .i64 n, vn, vs, (.slice r4 n3 c3), vm] 27) [(.slice a4 n4 c4)] 23
  clear h1
  have H2 := Lib.hid h2
  have H3 := Lib.hid h3
  have HB := Lib.hid hb
  clear h2 h3 hb
  go_enter Try.func52, Try.ntmps52
  go_wp2
  go_ret
  exact ⟨rfl, HB.out, H2.out, H3.out⟩

/-- Every support of the set is excluded. -/
def allExc (p : GP) (S a : List Int) : Bool := (supsTo p S p.rules.length).all fun u => exc u a

theorem blk_own {β : Type} (b : Nat) (c : List Value) (t : TypeId) : Own (fun (_ : β) W => Blk W b c t) := fun s X Y row hs hg hrow => by
  have hne : some b ≠ row := fun e' => by
    obtain ⟨_, ho, hc⟩ := hrow b e'.symm
    rw [show X.heap[b]? = _ from hs] at ho
    cases ho
    cases hc
  exact hs.same (hg.block b hs.lt hne)

theorem keeps_below {B : Nat} {W W' : World} (h : Below W.heap.size W W') : KeepsFrom B W W' := ⟨h.size, fun k _ _ hk _ => (h.block k (Array.getElem?_eq_some_iff.1 hk).1).trans hk⟩

theorem SupV.form {w : World} (x : SupV w) : ∃ vh vb vw vs, x.1.1 = .agg #[.bool x.1.2.r.choice, vh, .bool x.1.2.r.sum, .int .i64 x.1.2.r.bound, vb, vw, .int .i64 x.1.2.b, vs] ∧ (∃ a n c, vh = .slice a n c) ∧ (∃ a n c, vb = .slice a n c) ∧ (∃ a n c, vw = .slice a n c) ∧ ∃ a n c, vs = .slice a n c := by
  obtain ⟨vh, vb, vw, vs, e, h1, h2, h3⟩ := x.2.1
  obtain ⟨⟨_, _, e1, -⟩, -⟩ := h1.head
  obtain ⟨⟨_, _, e2, -⟩, -⟩ := h1.body
  obtain ⟨⟨_, _, e3, -⟩, -⟩ := h1.wts
  obtain ⟨⟨_, _, e4, -⟩, -⟩ := h2
  exact ⟨_, _, _, _, e, ⟨_, _, _, e1⟩, ⟨_, _, _, e2⟩, ⟨_, _, _, e3⟩, ⟨_, _, _, e4⟩⟩

theorem sus_mem {w : World} {l : List (SupV w)} {p : GP} {S a : List Int} (h : sus l = supsTo p S p.rules.length) : (∀ u ∈ sus l, exc u a = true) → allExc p S a = true := by
  intro h2
  unfold allExc
  rw [← h, List.all_eq_true]
  exact h2

theorem supsTo_sub (p : GP) (S : List Int) {u : SU} : ∀ (n k : Nat), k ≤ n → u ∈ supsTo p S k → u ∈ supsTo p S n
  | 0, k, hk, h => by obtain rfl : k = 0 := by omega
                      exact h
  | n + 1, k, hk, h => by
    by_cases e : k = n + 1
    · subst e; exact h
    · have := supsTo_sub p S n k (by omega) h
      unfold supsTo
      split
      · exact List.mem_append.2 (.inl this)
      · exact this

theorem sus_some {w : World} {l : List (SupV w)} {p : GP} {S a : List Int} {k : Nat} (hk : k ≤ p.rules.length) (h : sus l = supsTo p S k) {u : SU} (hu : u ∈ sus l) (he : exc u a = false) : allExc p S a = false := by
  unfold allExc
  rw [List.all_eq_false]
  exact ⟨u, supsTo_sub p S _ k hk (h ▸ hu), by simp [he]⟩

set_option maxHeartbeats 4000000 in
set_option maxRecDepth 100000 in
theorem all_any (p : GP) (S a : List Int) (ab : Nat) (v vset : Value) (w : World) (hP : ProgIs w v p) (hS : Ints w vset S) (ha : InU w ab a) (hok : ∀ k, k < p.rules.length → SUok (supAt p S k)) :
    Calls Try.prog 31 #[v, vset, .func (.func 32) #[] #[.pointer (some ⟨ab, 0, none⟩)]] w fun e w' => e = .returned (.bool (allExc p S a)) ∧ Below w.heap.size w w' := by
  have hP0 := Lib.hid hP
  obtain ⟨vn, vs, vr, vm, rfl, hPS⟩ := hP
  obtain ⟨a1, c1, rfl, -, hl1, -, -⟩ := hPS.rules.form
  obtain ⟨a4, c4, rfl, -, hl4, -, -⟩ := hS.form
  have HS := Lib.hid hS
  have HA := Lib.hid ha
  have HOK := Lib.hid hok
  clear hPS hS ha hok
  refine (callsIn_wide (n := 6)).1 ?_
  refine callsIn_of_wp_marks Try.func31 rfl trivial ?_ rfl
  simp only [Try.ntmps31, List.size_toArray, List.length_cons, List.length_nil, Nat.reduceAdd, Nat.reduceSub, Array.replicate_succ, Array.replicate_zero, List.push_toArray, List.append_toArray, List.nil_append, List.cons_append]
  have bI := (Blk.new2 w (.cells #[.int .i64 p.n, vn, vs, .slice a1 p.rules.length c1, vm] 27) [.func (.func 32) #[] #[.pointer (some ⟨ab, 0, none⟩)]] 66).alloc (.cells #[.bool false] 4)
  have bR := Blk.new ((w.alloc (.cells #[.int .i64 p.n, vn, vs, .slice a1 p.rules.length c1, vm] 27)).alloc (.cells #[.func (.func 32) #[] #[.pointer (some ⟨ab, 0, none⟩)]] 66)) [.bool false] 4
  have hb0 : Below w.heap.size w (((w.alloc (.cells #[.int .i64 p.n, vn, vs, .slice a1 p.rules.length c1, vm] 27)).alloc (.cells #[.func (.func 32) #[] #[.pointer (some ⟨ab, 0, none⟩)]] 66)).alloc (.cells #[.bool false] 4)) := bal (bal (bal (Below.refl _ _) _) _) _
  have BI := Lib.hid bI
  have BR := Lib.hid bR
  have HB0 := Lib.hid hb0
  clear bI bR hb0
  gi_wp2_with (refine ⟨trivial, ?_⟩; gi_at_call 52; refine (callsIn_wide.2 (supports_any _ _ _ _ _ _ _ _ _ _ _)).mono ?_; rintro e w1 ⟨rfl, hb1, hp1, hs1⟩)
  have bI := BI.out.below hb1
  have bR := BR.out.below hb1
  have hbw : Below w.heap.size w w1 := bon HB0.out hb1
  simp only [World.size_alloc] at hp1 hs1 bR
  clear hb1 BI BR HB0
  have hz := hs1.lt
  refine wpIn_rangeFunc_ownH rfl (by omega) (gf := 71) (lb := #[.pointer (some ⟨w.heap.size + 1 + 1 + 1, 0, none⟩), .pointer (some ⟨w.heap.size + 1 + 1 + 1 + 1, 0, none⟩)]) rfl trivial (enters_of Try.func71 (by kernel_rfl) rfl)
    (sups_stops p S w w1 vn vs (.slice a1 p.rules.length c1) vm (.slice a4 S.length c4) hP0.out HS.out (w.heap.size + 1 + 1) _ _ ⟨hbw, hp1, hs1⟩ (by omega) ⟨by omega, by omega⟩ HOK.out 5 (by omega))
    (fun h k => h.trans k) (fun W l o o' hl h hc hw => .of_below (belowK_b (w := w1) (Nat.le_refl _) W l o o' hl h hc hw) (Nat.le_refl _)) (Below.refl _ _) (fun _ => rfl)
    (fun pre W => (∀ u ∈ sus pre, exc u a = true) ∧ Below w1.heap.size w1 W)
    (fun c pre W => (Blk W (w.heap.size + 1 + 1) [.bool false] 4 ∧ (c = .ret ∧ ∃ u ∈ sus pre, exc u a = false)) ∧ Below w.heap.size w W)
    (OwnFrom.and (ownFrom_pure _ _) (ownFrom_below (Nat.le_refl _) (Nat.le_refl _)))
    (fun c => OwnFrom.and (OwnFrom.and (Own.from (blk_own _ _ _) _) (ownFrom_pure _ _)) (ownFrom_below (Nat.le_refl _) (by omega)))
    ⟨by intro u hu; simp [sus] at hu, Below.refl _ _⟩
    (fun x a' W => ∃ Bx vh vb vw vs9, x.1.1 = .agg #[.bool x.1.2.r.choice, vh, .bool x.1.2.r.sum, .int .i64 x.1.2.r.bound, vb, vw, .int .i64 x.1.2.b, vs9] ∧ Blk W Bx [.bool x.1.2.r.choice, vh, .bool x.1.2.r.sum, .int .i64 x.1.2.r.bound, vb, vw, .int .i64 x.1.2.b, vs9] 83 ∧ a' = { tmps := #[.agg #[.int .i64 p.n, vn, vs, .slice a1 p.rules.length c1, vm], .slice a4 S.length c4, .func (.func 32) #[] #[.pointer (some ⟨ab, 0, none⟩)], .pointer (some ⟨w.heap.size, 0, none⟩), undef, .pointer (some ⟨w.heap.size + 1, 0, none⟩), .pointer (some ⟨w.heap.size + 1 + 1, 0, none⟩), .pointer (some ⟨Bx, 0, none⟩), .agg #[.int .i64 p.n, vn, vs, .slice a1 p.rules.length c1, vm], .slice a4 S.length c4, .func (.func 71) #[] #[.pointer (some ⟨w.heap.size + 1 + 1 + 1, 0, none⟩), .pointer (some ⟨w.heap.size + 1 + 1 + 1 + 1, 0, none⟩)], x.1.1, undef, undef, undef, undef], defers := [] })
    (fun x a' _ X Y row hs hg hr => by obtain ⟨Bx, vh, vb, vw, vs9, h2, h3, h4⟩ := hs; exact ⟨Bx, vh, vb, vw, vs9, h2, blk_own Bx _ _ () X Y row h3 hg (fun r e => (hr r e).2), h4⟩)
    ?assign ?body ?done ?stop
  case assign =>
    rintro l pre x W K ⟨hall, hB⟩ hK
    obtain ⟨vh, vb, vw, vs9, hx, ⟨x1, x2, x3, rfl⟩, ⟨x4, x5, x6, rfl⟩, ⟨x7, x8, x9, rfl⟩, ⟨y1, y2, y3, rfl⟩⟩ := x.form
    have HX := Lib.hid hx
    have hbn := Blk.new W [.bool x.1.2.r.choice, (.slice x1 x2 x3), .bool x.1.2.r.sum, .int .i64 x.1.2.r.bound, (.slice x4 x5 x6), (.slice x7 x8 x9), .int .i64 x.1.2.b, (.slice y1 y2 y3)] 83
    have HBN := Lib.hid hbn
    dsimp only
    rw [hx]
    clear hx hbn
    gi_wp2
    exact hK _ _ ((KeepsOthers.alloc _ _).from _) (.of_below (bal (Below.refl _ _) _) hB.size) ⟨hall, hB.alloc hB.size _⟩ ⟨W.heap.size, _, _, _, _, HX.out, HBN.out, by rw [HX.out]⟩
  case body =>
    rintro l pre x a' W hl ⟨r, hr⟩ ⟨hall, hB⟩ ⟨Bx, vh, vb, vw, vs9, hx, bX, rfl⟩ hlt
    have kx := bX.cell
    have ki := (bI.below hB).cell 0
    have bRW := bR.below hB
    have hBw : Below w.heap.size w W := bon hbw hB
    have HE : Hid (Calls Try.prog 53 #[.agg #[.bool x.1.2.r.choice, vh, .bool x.1.2.r.sum, .int .i64 x.1.2.r.bound, vb, vw, .int .i64 x.1.2.b, vs9], .func (.func 32) #[] #[.pointer (some ⟨ab, 0, none⟩)]] W fun e w' => e = .returned (.bool (exc x.1.2 a)) ∧ Below W.heap.size W w') := Lib.hid (excluded_any _ x.1.2 ab a W (hx ▸ x.2.1.below hBw) x.2.2 (HA.out.below hBw))
    have HBX := Lib.hid hB
    have HBW := Lib.hid hBw
    have HALL := Lib.hid hall
    clear hB hBw hall
    cases he : exc x.1.2 a with
    | true =>
      have HEX : Hid (_ = true) := Lib.hid he
      rw [he] at HE
      clear he
      gi_wp2_with (refine ⟨trivial, ?_⟩; gi_at_call 53; refine (CallsIn.inRound l (callsIn_wide.2 HE.out)).mono ?_; rintro e w2 ⟨rfl, hb2⟩)
      refine ⟨keeps_below hb2, .of_below hb2 HBX.out.size, fun u hu => ?_, bon HBX.out hb2⟩
      rw [sus_snoc] at hu
      rcases List.mem_append.1 hu with h | h
      · exact HALL.out u h
      · obtain rfl := List.mem_singleton.1 h
        exact HEX.out
    | false =>
      have HEX : Hid (_ = false) := Lib.hid he
      rw [he] at HE
      clear he
      gi_wp2_with (refine ⟨trivial, ?_⟩; gi_at_call 53; refine (CallsIn.inRound l (callsIn_wide.2 HE.out)).mono ?_; rintro e w2 ⟨rfl, hb2⟩; have kc := (bRW.below hb2).cell 0; have kf := (bRW.below hb2).free 0)
      exact ⟨(keeps_below hb2).trans ((KeepsOthers.setCell _ _ _).from _), ⟨(bRW.below hb2).set 0 _, rfl, x.1.2, by rw [sus_snoc]; simp, HEX.out⟩, (bon HBW.out hb2).setCell (p := ⟨w.heap.size + 1 + 1, 0, none⟩) (by simp; omega) _⟩
  case done =>
    rintro D xs W hD hS ⟨hall, hB⟩ hK
    have bRW := bR.below hB
    have kc := bRW.cell 0
    have kf := bRW.free 0
    have hBw : Below w.heap.size w W := bon hbw hB
    gi_wp2
    have hK' := (KeepsOthers.setCell W ⟨w.heap.size + 1 + 1, 0, none⟩ (.bool true)).same D _ hK rfl
    refine ⟨by simp, .inl ⟨_, _, rfl, run_takeDeferred hK', ?_⟩⟩
    have hc5 := cell_kept (World.cell?_setCell_same' W ⟨w.heap.size + 1 + 1, 0, none⟩ (.bool true) (by rw [kc]; rfl)) (grownBy_putObj' _ D (.deferred none)) (fun r e => by cases e; exact ⟨_, hK', rfl⟩)
    refine ⟨.bool true, ?_, by rw [sus_mem hS hall], (hBw.setCell (p := ⟨w.heap.size + 1 + 1, 0, none⟩) (by simp; omega) _).trans (belowK_b (w := w) (Nat.le_refl _) _ D _ _ (by omega) hK' rfl rfl)⟩
    simp [results, Try.f31, go_sem, hc5]
  case stop =>
    rintro D c pre W hD ⟨k, hk, hS⟩ ⟨⟨bRW, rfl, u, hu, he⟩, hB⟩ hK
    gi_wp2
    refine ⟨by simp, .inl ⟨_, _, rfl, run_takeDeferred hK, ?_⟩⟩
    have hc5 := cell_kept (bRW.cell 0) (grownBy_putObj' _ D (.deferred none)) (fun r e => by cases e; exact ⟨_, hK, rfl⟩)
    refine ⟨.bool false, ?_, by rw [sus_some hk hS hu he], hB.trans (belowK_b (w := w) (Nat.le_refl _) W D _ _ (by omega) hK rfl rfl)⟩
    simp [results, Try.f31, go_sem, hc5]

end Go.Proofs.Ytdoecchigfdilaa

/- loops: Unfounded. -/
namespace Go.Proofs.Ytdoecchigfdilaa
open Go.RowKit

theorem ruleE_at {p : GP} (h : validE p = 0) {i : Nat} (hi : i < p.rules.length) : ruleE (ixR p.rules i) p.n = 0 := by
  unfold validE at h
  split at h
  · omega
  split at h
  · omega
  split at h
  · rename_i h3; exact absurd h h3
  rename_i h3
  exact rulesFrom_zero p.rules.length 0 (Decidable.not_not.1 h3) i (by omega) (by omega)

theorem rule_bound {r : GR} {n : Int} (h : ruleE r n = 0) : 0 ≤ r.bound ∧ r.bound ≤ 1048576 := by
  unfold ruleE at h
  grind

theorem inc_pos {l : List Int} {n : Int} (h : increasingB l n = true) {j : Nat} (hj : j < l.length) : 0 < ix l j ∧ ix l j ≤ n := by
  have h1 := ordered_lit (increasing_ordered h) (ix_mem hj)
  unfold increasingB at h
  simp only [Bool.and_eq_true] at h
  have h2 := allR_get h.2 j hj
  simp only [decide_eq_true_eq] at h2
  omega

theorem inc_ge {l : List Int} {n : Int} (h : increasingB l n = true) : ∀ j : Nat, j < l.length → (j : Int) + 1 ≤ ix l j
  | 0, hj => by have := inc_pos h hj; omega
  | j + 1, hj => by
    have h1 := inc_ge h j (by omega)
    have h2 := ordered_lt (increasing_ordered h) (j + 1) hj j (by omega)
    have h3 := inc_pos h hj
    have h4 := inc_pos h (show j < l.length by omega)
    unfold litKey at h2
    rw [if_pos (by omega), if_pos (by omega)] at h2
    omega

theorem supAt_ok {p : GP} (hv : validE p = 0) (S : List Int) {k : Nat} (hk : k < p.rules.length) : SUok (supAt p S k) where
  lits := fun j hj => by
    have h := validP hv
    have h1 := ordered_lit (h.body k hk) (ix_mem hj)
    have := h.n
    show 1 ≤ (ix (ixR p.rules k).body j).natAbs ∧ (ix (ixR p.rules k).body j).natAbs ≤ 1000000
    omega
  wts := fun hs => by
    have h1 := weights_sum ((validP hv).sum k hk hs)
    exact ⟨by exact_mod_cast h1.1, h1.2.1, h1.2.2⟩
  bound := rule_bound (ruleE_at hv hk)
  head := fun j hj => by
    have h := validP hv
    have h1 := inc_pos (h.head k hk) hj
    have := h.n
    show 1 ≤ ix (ixR p.rules k).head j ∧ ix (ixR p.rules k).head j ≤ 1000000
    omega
  b := by
    have h := validP hv
    have h1 := h.n
    have h2 := h.rules
    show 1 ≤ bodyI p k ∧ bodyI p k ≤ 1000000
    unfold bodyI
    rw [if_neg (by omega)]
    omega
  hlen := by
    have h := validP hv
    show (ixR p.rules k).head.length ≤ 1000000
    rcases Nat.eq_zero_or_pos (ixR p.rules k).head.length with h0 | h0
    · omega
    · have h1 := inc_ge (h.head k hk) ((ixR p.rules k).head.length - 1) (by omega)
      have h2 := inc_pos (h.head k hk) (show (ixR p.rules k).head.length - 1 < (ixR p.rules k).head.length by omega)
      have := h.n
      omega

def unfB (p : GP) (a S : List Int) : Bool := decide (validE p = 0) && (setB' p.n S && allExc p S a)

set_option maxHeartbeats 4000000 in
set_option maxRecDepth 100000 in
theorem unfounded_any (vp va vset : Value) (p : GP) (a S : List Int) (w : World) (hP : ProgIs w vp p) (hA : Bytes8 w va a) (hS : Ints w vset S) :
    Calls Try.prog 10 #[vp, va, vset] w fun e w' => e = .returned (.bool (unfB p a S)) ∧ Below w.heap.size w w' := by
  have hP0 := hP
  obtain ⟨vn, vs, vr, vm, rfl, hPS⟩ := hP
  obtain ⟨a1, c1, rfl, -, hl1, -, -⟩ := hPS.rules.form
  obtain ⟨a4, c4, rfl, -, hl4, -, -⟩ := hS.form
  obtain ⟨a9, n9, c9, rfl⟩ : ∃ a9 n9 c9, va = .slice a9 n9 c9 := by obtain ⟨⟨x, y, e, -⟩, -⟩ := hA; exact ⟨_, _, _, e⟩
  have hal : Below w.heap.size w ((w.alloc (.cells #[.int .i64 p.n, vn, vs, .slice a1 p.rules.length c1, vm] 27)).alloc (.cells #[.slice a9 n9 c9] 28)) := bal (bal (Below.refl _ _) _) _
  have hb1 := (Blk.new w [.int .i64 p.n, vn, vs, .slice a1 p.rules.length c1, vm] 27).alloc (.cells #[.slice a9 n9 c9] 28)
  have hb2 := Blk.new2 w (.cells #[.int .i64 p.n, vn, vs, .slice a1 p.rules.length c1, vm] 27) [.slice a9 n9 c9] 28
  have HP := Lib.hid (hP0.below hal)
  have HS := Lib.hid (hS.below hal)
  have HU : Hid (InU _ (w.heap.size + 1) a) := Lib.hid ⟨_, hb2, hA.below hal⟩
  have HAL := Lib.hid hal
  have HBK := Lib.hid hb1
  clear hP0 hPS hS hA hal hb1 hb2
  go_enter Try.func10, Try.ntmps10
  go_upto_region 1 with fail
  have kx := HBK.out.cell
  generalize (w.alloc (.cells #[.int .i64 p.n, vn, vs, .slice a1 p.rules.length c1, vm] 27)).alloc (.cells #[.slice a9 n9 c9] 28) = W at *
  have HF : Hid (unfB p a S = (decide (validE p = 0) && (setB' p.n S && allExc p S a))) := Lib.hid rfl
  by_cases hv : validE p = 0
  · have HV := Lib.hid hv
    have HOK : Hid (∀ k, k < p.rules.length → SUok (supAt p S k)) := Lib.hid (fun k hk => supAt_ok hv S hk)
    cases h2 : setB' p.n S with
    | false =>
      rw [h2, Bool.false_and, Bool.and_false] at HF
      have HI := Lib.hid h2
      clear h2 hv
      go_wp2_with (first
        | (go_at_call 6; (with_reducible refine (valid_any _ p W HP.out).mono ?_); rintro e w1 ⟨he, hb1⟩; rw [HV.out] at he; subst he; have HB1 := Lib.hid hb1; have kx1 := fun o => (bcell hb1 _ o HBK.out.lt).trans (HBK.out.cell o); clear hb1)
        | (go_at_call 30; (with_reducible refine (isSet_any _ _ p S _ (HP.out.below HB1.out) (HS.out.below HB1.out)).mono ?_); rintro e w2 ⟨he, hb2⟩; rw [HI.out] at he; subst he; have HB2 := Lib.hid (bon HB1.out hb2); clear hb2))
      go_ret
      exact ⟨ret_bool HF.out.symm, HAL.out.trans (HB2.out.mono HAL.out.size)⟩
    | true =>
      rw [h2, Bool.true_and, decide_eq_true hv, Bool.true_and] at HF
      have HI := Lib.hid h2
      clear h2 hv
      go_wp2_with (first
        | (go_at_call 6; (with_reducible refine (valid_any _ p W HP.out).mono ?_); rintro e w1 ⟨he, hb1⟩; rw [HV.out] at he; subst he; have HB1 := Lib.hid hb1; have kx1 := fun o => (bcell hb1 _ o HBK.out.lt).trans (HBK.out.cell o); clear hb1)
        | (go_at_call 30; (with_reducible refine (isSet_any _ _ p S _ (HP.out.below HB1.out) (HS.out.below HB1.out)).mono ?_); rintro e w2 ⟨he, hb2⟩; rw [HI.out] at he; subst he; have HB2 := Lib.hid (bon HB1.out hb2); have kx2 := fun o => (bcell HB2.out _ o HBK.out.lt).trans (HBK.out.cell o); clear hb2)
        | (go_at_call 31; (with_reducible refine (all_any p S a _ _ _ _ (HP.out.below HB2.out) (HS.out.below HB2.out) (HU.out.below HB2.out) HOK.out).mono ?_); rintro e w3 ⟨rfl, hb3⟩; have HB3 := Lib.hid (bon HB2.out hb3); clear hb3))
      go_ret
      exact ⟨ret_bool HF.out.symm, HAL.out.trans (HB3.out.mono HAL.out.size)⟩
  · rw [decide_eq_false hv, Bool.false_and] at HF
    go_wp2_with (go_at_call 6; (with_reducible refine (valid_any _ p W HP.out).mono ?_); rintro e w1 ⟨rfl, hb1⟩; have HB1 := Lib.hid hb1; clear hb1)
    go_ret
    exact ⟨ret_bool HF.out.symm, HAL.out.trans (HB1.out.mono HAL.out.size)⟩

end Go.Proofs.Ytdoecchigfdilaa

/- The plain law of SourceUnfounded. -/
namespace Go.Proofs.Ytdoecchigfdilaa
open Go.RowKit

section
variable {u : SU} {a : List Int} {G : Int → Int} {g : Int → Bool}

theorem wgt_le_av (hw : ∀ k, k < u.r.w.length → 1 ≤ ix u.r.w k) (hl : u.r.w.length = u.r.body.length) (h : ∀ l ∈ u.r.body, (!intB u.S l && g l) = true → holdsB a G (fun _ => 0) 1 l = true) : ∀ k, k ≤ u.r.body.length → wgt u g k ≤ avSum u.r a G (fun _ => 0) 1 k
  | 0, _ => Int.le_refl _
  | k + 1, hk => by
    have h1 := wgt_le_av hw hl h k (by omega)
    have h2 := hw k (by omega)
    have h3 := h (ix u.r.body k) (ix_mem (by omega))
    unfold wgt avSum
    cases h4 : (!intB u.S (ix u.r.body k) && g (ix u.r.body k)) with
    | true => rw [h3 h4]; simp only [if_true]; omega
    | false =>
      simp only [Bool.false_eq_true, if_false]
      split <;> omega

theorem av_le_wgt (hw : ∀ k, k < u.r.w.length → 1 ≤ ix u.r.w k) (hl : u.r.w.length = u.r.body.length) (h : ∀ l ∈ u.r.body, holdsB a G (fun _ => 0) 1 l = true → (!intB u.S l && g l) = true) : ∀ k, k ≤ u.r.body.length → avSum u.r a G (fun _ => 0) 1 k ≤ wgt u g k
  | 0, _ => Int.le_refl _
  | k + 1, hk => by
    have h1 := av_le_wgt hw hl h k (by omega)
    have h2 := hw k (by omega)
    have h3 := h (ix u.r.body k) (ix_mem (by omega))
    unfold wgt avSum
    cases h4 : holdsB a G (fun _ => 0) 1 (ix u.r.body k) with
    | true => rw [h3 h4]; simp only [if_true]; omega
    | false =>
      simp only [Bool.false_eq_true, if_false]
      split <;> omega
end

theorem anyR_not {n : Nat} {f : Nat → Bool} (h : anyR n f = false) (k : Nat) (hk : k < n) : f k = false := by
  cases e : f k with
  | false => rfl
  | true => rw [anyR_true k hk e] at h; cases h

theorem anyR_some {n : Nat} {f : Nat → Bool} (h : anyR n f = true) : ∃ k, k < n ∧ f k = true := by
  apply Classical.byContradiction
  intro hn
  rw [anyR_false (fun j hj => by
    cases e : f j with
    | false => rfl
    | true => exact absurd ⟨j, hj, e⟩ hn)] at h
  cases h

theorem anyR_lits {l : List Int} {q : Int → Bool} (h : anyR l.length (fun j => q (ix l j)) = false) : ∀ x ∈ l, q x = false := fun x hx => by
  obtain ⟨k, hk, rfl⟩ := mem_ix.1 hx
  exact anyR_not h k hk

theorem body_at {p : GP} (hv : validE p = 0) {k : Nat} (hk : k < p.rules.length) : bodyI p k = p.n + 1 + k := by
  unfold bodyI
  rw [if_neg (by omega)]

/-- A support that is not excluded is available, where whatever is not in the set and not false is founded. -/
theorem avail_of_exc {p : GP} {a S : List Int} {G : Int → Int} (hv : validE p = 0) {k : Nat} (hk : k < p.rules.length) (hG : ∀ l ∈ (ixR p.rules k).body, 0 < l → l ∉ S → offB a l = false → 0 < G l) (h : exc (supAt p S k) a = false) : avS p a G k = true := by
  unfold exc at h
  simp only [Bool.or_eq_false_iff] at h
  obtain ⟨⟨⟨⟨h1, h2⟩, h3⟩, -⟩, h5⟩ := h
  have hb : (supAt p S k).b = p.n + 1 + k := body_at hv hk
  rw [hb] at h2
  unfold avS avB availB
  rw [Int.toNat_natCast, h2, Bool.not_false, Bool.true_and]
  have hh : ∀ l ∈ (ixR p.rules k).body, intB S l = false → offB a l = false → holdsB a G (fun _ => 0) 1 l = true := fun l hl hi ho => by
    rw [holds_set, ho, Bool.not_false, Bool.true_and]
    have hl0 := (ordered_lit ((validP hv).body k hk) hl).1
    rcases Int.lt_or_lt_of_ne hl0 with h0 | h0
    · simp [h0]
    · unfold intB at hi
      rw [decide_eq_true h0, Bool.true_and] at hi
      have := hG l hl h0 (of_decide_eq_false hi) ho
      simp [this]
  cases hs : (ixR p.rules k).sum with
  | false =>
    simp only [Bool.false_eq_true, if_false]
    have hs' : (supAt p S k).r.sum = false := hs
    unfold impB at h1
    rw [hs'] at h1
    unfold ex2 at h3
    rw [hs', Bool.not_false, Bool.true_and] at h3
    have h1' := anyR_lits (q := fun l => intB S l) h1
    have h3' := anyR_lits (q := fun l => offB a l) h3
    exact allR_true fun j hj => hh _ (ix_mem hj) (h1' _ (ix_mem hj)) (h3' _ (ix_mem hj))
  | true =>
    simp only [if_true]
    have hs' : (supAt p S k).r.sum = true := hs
    unfold ex4 at h5
    rw [hs', Bool.true_and] at h5
    have h5' := of_decide_eq_false h5
    obtain ⟨w1, w2, -⟩ := weights_sum ((validP hv).sum k hk hs)
    have := wgt_le_av (u := supAt p S k) (a := a) (G := G) (g := fun l => !offB a l) w2 (by exact_mod_cast w1) (fun l hl h => by
      simp only [Bool.and_eq_true, Bool.not_eq_true'] at h
      exact hh l hl h.1 h.2) _ (Nat.le_refl _)
    refine decide_eq_true ?_
    have e : (supAt p S k).r = ixR p.rules k := rfl
    rw [e] at this h5'
    omega

theorem find_mem {F : Int → Int} {a : List Int} {x : Int} : ∀ n, x ∈ findTo F a n ↔ 1 ≤ x ∧ x ≤ n ∧ ¬ 0 < F x ∧ offB a x = false
  | 0 => by simp [findTo]; omega
  | n + 1 => by
    have ih := find_mem (F := F) (a := a) (x := x) n
    unfold findTo
    split
    · rename_i h
      rw [List.mem_append, ih, List.mem_singleton]
      constructor
      · rintro (h1 | rfl)
        · exact ⟨h1.1, by omega, h1.2.2⟩
        · exact ⟨by omega, by omega, h⟩
      · rintro ⟨h1, h2, h3⟩
        by_cases e : x = n + 1
        · exact .inr e
        · exact .inl ⟨h1, by omega, h3⟩
    · rename_i h
      rw [ih]
      constructor
      · exact fun h1 => ⟨h1.1, by omega, h1.2.2⟩
      · rintro ⟨h1, h2, h3⟩
        by_cases e : x = n + 1
        · exact absurd (e ▸ h3) h
        · exact ⟨h1, by omega, h3⟩

theorem sups_all {p : GP} {S a : List Int} (h : ∀ k, k < p.rules.length → headIn S (ixR p.rules k) = true → exc (supAt p S k) a = true) : allExc p S a = true := by
  unfold allExc
  rw [List.all_eq_true]
  have : ∀ n, n ≤ p.rules.length → ∀ u ∈ supsTo p S n, exc u a = true := fun n => by
    induction n with
    | zero => intro _ u hu; simp [supsTo] at hu
    | succ n ih =>
      intro hn u hu
      unfold supsTo at hu
      split at hu
      · rename_i hh
        rcases List.mem_append.1 hu with h1 | h1
        · exact ih (by omega) u h1
        · rw [List.mem_singleton] at h1
          subst h1
          exact h n (by omega) hh
      · exact ih (by omega) u hu
  exact this _ (Nat.le_refl _)

theorem sups_get {p : GP} {S a : List Int} (h : allExc p S a = true) {k : Nat} (hk : k < p.rules.length) (hh : headIn S (ixR p.rules k) = true) : exc (supAt p S k) a = true := by
  unfold allExc at h
  rw [List.all_eq_true] at h
  refine h _ (supsTo_sub p S _ (k + 1) hk ?_)
  unfold supsTo
  rw [hh, if_pos rfl]
  simp

theorem headIn_some {S : List Int} {r : GR} (h : headIn S r = true) : ∃ x, x ∈ r.head ∧ x ∈ S := by
  obtain ⟨j, hj, h1⟩ := anyR_some h
  exact ⟨_, ix_mem hj, of_decide_eq_true h1⟩

theorem headIn_of {S : List Int} {r : GR} {x : Int} (h1 : x ∈ r.head) (h2 : x ∈ S) : headIn S r = true := by
  obtain ⟨j, hj, rfl⟩ := mem_ix.1 h1
  exact anyR_true j hj (decide_eq_true h2)

/-- What Find returns excludes all of its supports. -/
theorem find_exc {p : GP} {a : List Int} {F : Int → Int} (hv : validE p = 0) (hF : IsFnd p a F) : allExc p (findTo F a p.n.toNat) a = true := by
  have hn := (validP hv).n
  refine sups_all fun k hk hh => ?_
  obtain ⟨x, hx1, hx2⟩ := headIn_some hh
  rw [find_mem] at hx2
  cases he : exc (supAt p (findTo F a p.n.toNat) k) a with
  | true => rfl
  | false =>
    have hav := avail_of_exc (G := F) hv hk (fun l hl h0 h1 h2 => by
      apply Classical.byContradiction
      intro h3
      have h4 := ordered_lit ((validP hv).body k hk) hl
      exact h1 ((find_mem _).2 ⟨by omega, by omega, h3, h2⟩)) he
    exact absurd (hF.closed x k hx2.1 (by omega) hx2.2.2.2 ⟨by omega, by omega, by simpa using hx1⟩ hav) hx2.2.2.1

end Go.Proofs.Ytdoecchigfdilaa

/- ostlerlaw26.Subset: some atoms. -/
namespace Go.Proofs.Ytdoecchigfdilaa
open Go.RowKit

/-- A list of atoms under way. -/
def SubRel (n : Int) (w0 : World) (v i : Value) (wx : World) : Prop :=
  ∃ k : Nat, (k : Int) ≤ n ∧ i = .int .i64 ((k : Int) + 1) ∧ ∃ l, QRow w0.heap.size wx v l ∧ l.length ≤ k ∧ (∀ x ∈ l, 1 ≤ x ∧ x ≤ k) ∧ Hid (l.Pairwise (· < ·)) ∧ Below w0.heap.size w0 wx

theorem SubRel.push {k : Nat} {l : List Int} {v : Value} {w0 w1 w4 : World} (hq : QRow w0.heap.size w1 v l) (hb : Below w0.heap.size w0 w1)
    (hg : (w1.alloc (.cells #[.int .i64 ((k : Int) + 1)] 3)).grownBy w4 v.ownBlock) : Below w0.heap.size w0 w4 := by
  have hf : ∀ i, v.ownBlock = some i → w0.heap.size ≤ i := fun i e => by
    rcases hq.2 with ⟨rfl, _⟩ | ⟨g, off, cap, cur, rfl, hbg, _⟩
    · cases e
    · simp only [Value.ownBlock, Option.some.injEq] at e; omega
  have hsz := hg.size
  simp at hsz
  have hbs := hb.size
  have hk : ∀ i, i < w0.heap.size → w4.heap[i]? = w1.heap[i]? := fun i hi => (hg.block i (by simp; omega) (fun e => by have := hf i e.symm; omega)).trans (Below.heap_alloc _ _ _ (by omega))
  exact hb.trans ⟨hg.os, hg.tape, hg.output, by omega, fun i hi => hk i hi⟩

theorem SubRel.mem {k : Nat} {l : List Int} (h : ∀ x ∈ l, 1 ≤ x ∧ x ≤ k) : ∀ x ∈ l ++ [(k : Int) + 1], 1 ≤ x ∧ x ≤ ((k + 1 : Nat) : Int) := fun x hx => by
  rcases List.mem_append.1 hx with h1 | h1
  · have := h x h1; omega
  · rw [List.mem_singleton] at h1; omega

theorem SubRel.sorted {k : Nat} {l : List Int} (h : ∀ x ∈ l, 1 ≤ x ∧ x ≤ k) (hs : Hid (l.Pairwise (· < ·))) : Hid ((l ++ [(k : Int) + 1]).Pairwise (· < ·)) :=
  Lib.hid (List.pairwise_append.2 ⟨hs.out, List.pairwise_singleton _ _, fun x hx y hy => by rw [List.mem_singleton] at hy; have := h x hx; omega⟩)

set_option maxHeartbeats 4000000 in
set_option maxRecDepth 100000 in
theorem subset_set (n b : Int) (w : World) (hn : 0 ≤ n ∧ n ≤ 4000) :
    Calls Try.prog 12 #[.int .i64 n, .int .i64 b] w fun e w' => ∃ a m c l, e = .returned (.slice a m c) ∧ QRow w.heap.size w' (.slice a m c) l ∧ l.length ≤ n.toNat ∧ (∀ x ∈ l, 1 ≤ x ∧ x ≤ n) ∧ l.Pairwise (· < ·) ∧ Below w.heap.size w w' := by
  go_enter Try.func12, Try.ntmps12
  go_wp2
  go_loopw [5, 6] (fun v i wx => SubRel n w v i wx) (fun _ i _ => (n + 1 - intOf i).toNat)
  case atStart => exact ⟨0, hn.1, rfl, [], QRow.nil _ _, Nat.le_refl _, by simp, Lib.hid List.Pairwise.nil, Below.refl _ _⟩
  case round =>
    obtain ⟨k, hk, rfl, l, hq, hlen, hmem, HS, hbx⟩ := hrel
    have HQ := Lib.hid hq
    have HM := Lib.hid hmem
    have HB := Lib.hid hbx
    have hzr := hbx.size
    obtain ⟨av, nv, cv, rfl⟩ := hq.form
    clear hq hmem hbx
    by_cases hlt : (k : Int) < n
    · have hxI : InI ((k : Int) + 1) := by unfold InI; omega
      have hap : (l.length + 1) * 8 ≤ 140737488351232 := by omega
      go_wp2_with (at_builtin; refine wpList_appendQ rfl _ _ 23 Try.underlying23 rfl w.heap.size _ l ((k : Int) + 1) rfl (HQ.out.kept (w' := wr.alloc (.cells #[.int .i64 ((k : Int) + 1)] 3)) (fun i h1 h2 _ => Below.heap_alloc _ _ _ h2)) wr.heap.size 1 rfl (Blk.new wr [.int .i64 ((k : Int) + 1)] _) hxI hap (by simp; omega) ?_; intro v4 w4 hq4 hg4 hl4; have hpp := SubRel.push HQ.out HB.out hg4; have HPP := Lib.hid hpp; have HQ4 := Lib.hid hq4; obtain ⟨a4, n4, c4, rfl⟩ := hq4.form; clear hpp hq4 hg4 hl4)
      · first
          | (go_roundw
             case rel => (exact ⟨k + 1, by omega, by go_num, l ++ [(k : Int) + 1], HQ4.out, by simp; omega, SubRel.mem HM.out, SubRel.sorted HM.out HS, HPP.out⟩)
             case measure => (simp [intOf]; omega))
          | (refine ⟨?_, ?_⟩
             · (exact ⟨k + 1, by omega, by go_num, l ++ [(k : Int) + 1], HQ4.out, by simp; omega, SubRel.mem HM.out, SubRel.sorted HM.out HS, HPP.out⟩)
             · (simp [intOf]; omega))
      · first
          | (go_roundw
             case rel => (exact ⟨k + 1, by omega, by go_num, l, HQ.out, by omega, (fun x hx => by have := HM.out x hx; omega), HS, HB.out⟩)
             case measure => (simp [intOf]; omega))
          | (refine ⟨?_, ?_⟩
             · (exact ⟨k + 1, by omega, by go_num, l, HQ.out, by omega, (fun x hx => by have := HM.out x hx; omega), HS, HB.out⟩)
             · (simp [intOf]; omega))
    · go_wp2
      go_ret
      exact ⟨av, nv, cv, rfl, l, HQ.out, by omega, (fun x hx => by have := HM.out x hx; omega), HS.out, HB.out⟩

theorem subset_any (n b : Int) (w : World) (hn : 0 ≤ n ∧ n ≤ 4000) :
    Calls Try.prog 12 #[.int .i64 n, .int .i64 b] w fun e w' => ∃ a m c l, e = .returned (.slice a m c) ∧ QRow w.heap.size w' (.slice a m c) l ∧ l.length ≤ n.toNat ∧ (∀ x ∈ l, 1 ≤ x ∧ x ≤ n) ∧ Below w.heap.size w w' :=
  (subset_set n b w hn).mono fun _ _ ⟨a, m, c, l, e, h1, h2, h3, _, h4⟩ => ⟨a, m, c, l, e, h1, h2, h3, h4⟩

end Go.Proofs.Ytdoecchigfdilaa

/- 'append([]GRule{}, p.Rules...)': a copy of the rules. -/
namespace Go.Proofs.Ytdoecchigfdilaa
open Go.RowKit

def rowsOf (l : List GR) (vh vb vw : Nat → Value) : List RQ := (List.range l.length).map fun i => (ixR l i, vh i, vb i, vw i)

theorem rowsOf_len (l : List GR) (vh vb vw : Nat → Value) : (rowsOf l vh vb vw).length = l.length := by simp [rowsOf]

theorem rowsOf_cell {l : List GR} {vh vb vw : Nat → Value} {i j : Nat} (hi : i < l.length) (hj : j < 6) : ((rowsOf l vh vb vw).flatMap cells6)[i * 6 + j]? = some (ruleCell (ixR l i) (vh i) (vb i) (vw i) j) := by
  rw [flat6 _ i j (by rw [rowsOf_len]; exact hi) hj]
  have e : (rowsOf l vh vb vw).getD i default = (ixR l i, vh i, vb i, vw i) := by
    simp [rowsOf, List.getD_eq_getElem?_getD, hi]
  rw [e]
  rcases (show j = 0 ∨ j = 1 ∨ j = 2 ∨ j = 3 ∨ j = 4 ∨ j = 5 by omega) with rfl | rfl | rfl | rfl | rfl | rfl <;> rfl

theorem flat_len : ∀ L : List RQ, (L.flatMap cells6).length = L.length * 6
  | [] => rfl
  | q :: L => by
    rw [List.flatMap_cons, List.length_append, flat_len L, List.length_cons]
    simp [cells6]
    omega

theorem rows_src {w : World} {x : Value} {l : List GR} {vh vb vw : Nat → Value} (h : Rows w x 6 88 l.length (fun i => ruleCell (ixR l i) (vh i) (vb i) (vw i))) (hs : ∀ i, i < l.length → RuleSl w (ixR l i) (vh i) (vb i) (vw i)) :
    _root_.Go.Src Try.prog 6 24 x l.length ((rowsOf l vh vb vw).flatMap cells6) w := by
  obtain ⟨a, c, rfl, -, -, -, hc⟩ := h
  have hone : ∀ u ∈ (rowsOf l vh vb vw).flatMap cells6, u.oneCell' = true := fun u hu => by
    obtain ⟨q, hq, hu⟩ := List.mem_flatMap.1 hu
    obtain ⟨i, hi, rfl⟩ := List.mem_map.1 hq
    have h1 := hs i (List.mem_range.1 hi)
    obtain ⟨⟨_, _, e1, -⟩, -⟩ := h1.head
    obtain ⟨⟨_, _, e2, -⟩, -⟩ := h1.body
    obtain ⟨⟨_, _, e3, -⟩, -⟩ := h1.wts
    simp only [cells6, e1, e2, e3, List.mem_cons, List.not_mem_nil, or_false] at hu
    rcases hu with rfl | rfl | rfl | rfl | rfl | rfl <;> rfl
  rcases Nat.eq_zero_or_pos l.length with h0 | h0
  · have e : (rowsOf l vh vb vw).flatMap cells6 = [] := List.eq_nil_of_length_eq_zero (by rw [flat_len, rowsOf_len, h0])
    rw [e, h0]
    cases a with
    | none => exact _root_.Go.Src.ofNil w Try.underlying24 c
    | some a => exact _root_.Go.Src.ofSlice w Try.underlying24 a 0 c [] (by simp) (fun j u hu => by simp at hu) (fun u hu => by simp at hu)
  · obtain ⟨b, off, rfl, -, hcc⟩ := hc h0
    refine _root_.Go.Src.ofSlice w Try.underlying24 ⟨b, off, none⟩ _ c _ (by rw [flat_len, rowsOf_len]) (fun j u hu => ?_) hone
    have hj : j < l.length * 6 := by
      have := (List.getElem?_eq_some_iff.1 hu).1
      rwa [flat_len, rowsOf_len] at this
    have hadd : (⟨b, off, none⟩ : Addr).add j = ⟨b, off + j, none⟩ := by unfold Addr.add; split <;> simp_all
    have e : j / 6 * 6 + j % 6 = j := by omega
    have h1 := rowsOf_cell (l := l) (vh := vh) (vb := vb) (vw := vw) (i := j / 6) (j := j % 6) (by omega) (by omega)
    rw [e, hu] at h1
    rw [hadd, ← e, ← Nat.add_assoc, hcc (j / 6) (by omega) (j % 6) (by omega)]
    exact h1.symm

section
variable {w : World} {x : Value} {l : List GR} {vh vb vw : Nat → Value}

theorem run_copyR0 (ty : TypeId) (b0 : Nat) (h : Rows w x 6 88 l.length (fun i => ruleCell (ixR l i) (vh i) (vb i) (vw i))) (hs : ∀ i, i < l.length → RuleSl w (ixR l i) (vh i) (vb i) (vw i)) (h0 : l.length = 0) :
    (Builtin.append_ #[24, 24] ty #[.slice (some ⟨b0, 0, none⟩) 0 0, x]).run Try.prog w = .ok (.slice (some ⟨b0, 0, none⟩) 0 0) w := by
  have hi := infoR
  obtain ⟨i, hi, he⟩ := Option.map_eq_some_iff.1 hi
  simp only [Prod.mk.injEq] at he
  obtain ⟨hz, hsz, hby⟩ := he
  have hsrc := rows_src h hs
  have e : (rowsOf l vh vb vw).flatMap cells6 = [] := List.eq_nil_of_length_eq_zero (by rw [flat_len, rowsOf_len, h0])
  rw [e, h0, ← hsz] at hsrc
  have := run_append_room_src (P := Try.prog) w 24 24 ty 41 i Try.underlying24 hi b0 0 0 0 x 0 [] hsrc (by omega) (fun j hj => by simp at hj) (fun j hj => by simp at hj)
  exact this

theorem run_copyR (ty : TypeId) (b0 : Nat) (h : Rows w x 6 88 l.length (fun i => ruleCell (ixR l i) (vh i) (vb i) (vw i))) (hs : ∀ i, i < l.length → RuleSl w (ixR l i) (vh i) (vb i) (vw i)) (h0 : 0 < l.length) (hl : l.length ≤ 40000) :
    ∃ c D, (Builtin.append_ #[24, 24] ty #[.slice (some ⟨b0, 0, none⟩) 0 0, x]).run Try.prog w = .ok (.slice (some ⟨w.heap.size, 0, none⟩) l.length c) (w.drew.alloc (.cells (D : List Value).toArray 41)) ∧
      l.length ≤ c ∧ c ≤ maxLen ∧ ∀ i, i < l.length → ∀ j, j < 6 → D[i * 6 + j]? = some (ruleCell (ixR l i) (vh i) (vb i) (vw i) j) := by
  have hi := infoR
  obtain ⟨i, hi, he⟩ := Option.map_eq_some_iff.1 hi
  simp only [Prod.mk.injEq] at he
  obtain ⟨hz, hsz, hby⟩ := he
  have hsrc := rows_src h hs
  rw [← hsz] at hsrc
  have hr := run_append_grow_src (P := Try.prog) w 24 24 ty 41 i _ Try.underlying24 hi hz (some ⟨b0, 0, none⟩) 0 0 [] (by exact run_firstCells_some (P := Try.prog) w.drew i.size 0 ⟨b0, 0, none⟩ 0 0 [] (by simp) (fun j u hu => by simp at hu)) x l.length _ hsrc (by omega) (by omega) (growslice_fits (by omega) (by rw [hby]; omega))
  simp only [Nat.zero_add, List.nil_append] at hr
  refine ⟨_, (((rowsOf l vh vb vw).flatMap cells6).toArray ++ Builtin.zeroCells (Value.agg #[.bool false, .slice none 0 0, .bool false, .int .i64 0, .slice none 0 0, .slice none 0 0]).cells (grownCap w l.length 0 41 - l.length)).toList, by rw [hr], ?_, grownCap_le_maxLen w l.length 0 41 (by unfold maxLen; omega), fun k hk j hj => ?_⟩
  · have := grownCap_ge w l.length 0 41
    omega
  · rw [Array.toList_append, List.getElem?_append_left (by simp only [flat_len, rowsOf_len]; omega)]
    exact rowsOf_cell hk hj

/-- What the copy leaves. -/
def CopyPost (l : List GR) (vh vb vw : Nat → Value) (w w' : World) (ag : Option Addr) (cg : Nat) : Prop :=
  l.length ≤ cg ∧ cg ≤ maxLen ∧ Below w.heap.size w w' ∧ (0 < l.length → ∃ D, ag = some ⟨w.heap.size, 0, none⟩ ∧ Blk w' w.heap.size D 41 ∧ ∀ i, i < l.length → ∀ j, j < 6 → D[i * 6 + j]? = some (ruleCell (ixR l i) (vh i) (vb i) (vw i) j))

theorem wpList_copyR {ops : Array Oper} {rest : List Oper} {o : Oper} {a : Act} {Q : Exit → Act → World → Prop} (hgd : o.guard = none) (s x : Operand) (y : Value)
    (ho : o.op = .call { callee := .builtin .append, args := #[s, x], argTypes := #[24, 24] }) (b0 : Nat) (hs : a.eval s = .slice (some ⟨b0, 0, none⟩) 0 0) (hx : a.eval x = y)
    (h : Rows w y 6 88 l.length (fun i => ruleCell (ixR l i) (vh i) (vb i) (vw i))) (hsl : ∀ i, i < l.length → RuleSl w (ixR l i) (vh i) (vb i) (vw i)) (hl : l.length ≤ 40000)
    (hK : ∀ ag cg w', CopyPost l vh vb vw w w' ag cg → wpList Try.prog ops Q rest (a.put o.dst (.slice ag l.length cg)) w') : wpList Try.prog ops Q (o :: rest) a w :=
  wpList_plain hgd fun _ hK' => by
    rcases Nat.eq_zero_or_pos l.length with h0 | h0
    · have hr := run_copyR0 o.type b0 h hsl h0
      unfold Oper.wp execOp
      simp only [ho, resolve, invoke, builtin, Sem.run_bind, Sem.run_pure, Result.andThen_ok, List.map_toArray, List.map_cons, List.map_nil, hs, hx, hr]
      have := hK (some ⟨b0, 0, none⟩) 0 w ⟨by omega, by unfold maxLen; omega, Below.refl _ _, fun hp => by omega⟩
      rw [h0] at this
      exact hK' _ _ this
    · obtain ⟨c, D, hr, h1, h2, h3⟩ := run_copyR o.type b0 h hsl h0 hl
      unfold Oper.wp execOp
      simp only [ho, resolve, invoke, builtin, Sem.run_bind, Sem.run_pure, Result.andThen_ok, List.map_toArray, List.map_cons, List.map_nil, hs, hx, hr]
      exact hK' _ _ (hK _ c _ ⟨h1, h2, bal (Below.refl _ _).drew _, fun _ => ⟨D, rfl, Blk.new w.drew D _, h3⟩⟩)
end

end Go.Proofs.Ytdoecchigfdilaa
