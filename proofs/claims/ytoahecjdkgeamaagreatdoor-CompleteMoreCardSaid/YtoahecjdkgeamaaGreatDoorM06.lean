/- My texts Cm1, Lp2, Lp3, Lp4, Lp5, Lp7, Lp8, Lp9, Lp10, Cm3, merged. -/
import Derived.Test.YtoahecjdkgeamaaGreatDoorM05
import Derived.Test.YtoahecjdkgeamaaGreatDoorM00
import Derived.Deep.RegionWith
import Derived.Test.YtoahecjdkgeamaaGreatDoorM04
import Derived.RangeFuncNested
import Derived.RangeFuncBound
import Derived.RangeFuncCalls
import Derived.RangeFuncLeaves
import Derived.WalkKit
import Derived.OwnWalkIn
import Derived.TacticsInMore
import Derived.LoopNIn
import Derived.LoopIn
import Derived.Stop.RegionWithIn
import Derived.Shelf.Abstract

/- complete.set; reduct.Body: contracts. -/
namespace Go.Proofs.YtoahecjdkgeamaaGreatDoor
open Go.RowKit

set_option maxHeartbeats 2000000 in
theorem cset_any (v vs : Value) (p : GP) (S : List Int) (w : World) (h : ProgIs w v p) (hs : Ints w vs S) :
    Calls Tryz.prog 47 #[v, vs] w fun e w' => e = .returned (.bool (setQ p.n S)) ∧ Below w.heap.size w w' := by
  obtain ⟨vn, vsh, vr, vm, rfl, hn, -⟩ := h
  have hal := bal (Below.refl w.heap.size w) (.cells #[.int .i64 p.n, vn, vsh, vr, vm] 27)
  have hbk := Blk.new w [.int .i64 p.n, vn, vsh, vr, vm] 27
  obtain ⟨a1, c1, rfl, -, hl1, -, hcell⟩ := (hs.below hal).form
  clear hs
  unfold InI at hn
  go_enter Tryz.func47, Tryz.ntmps47
  go_upto_region 1 with fail
  have kx := hbk.cell 0
  clear hbk
  generalize w.alloc (.cells #[.int .i64 p.n, vn, vsh, vr, vm] 27) = W0 at *
  go_wp2
  go_loop [9] (fun i => ∃ k : Nat, k ≤ S.length ∧ i = .int .i64 k ∧ Hid (∀ j, j < k → setTo p.n S j = true)) (fun i => S.length - (intOf i).toNat)
  case atStart => exact ⟨0, by omega, rfl, Lib.hid (fun j hj => absurd hj (Nat.not_lt_zero _))⟩
  case round =>
    obtain ⟨k, hk, rfl, HA⟩ := hrel
    have HF : Hid (∀ k, k < S.length → setTo p.n S k = false → setQ p.n S = false) := Lib.hid (fun k hk h => by unfold setQ; rw [allR_false k hk h])
    by_cases hlt : k < S.length
    · obtain ⟨b, off, rfl, hbl, hc⟩ := hcell (by omega)
      have hk1 := hc k hlt
      by_cases h1 : ix S k < 1
      · have HN : Hid (setTo p.n S k = false) := Lib.hid (by unfold setTo; rw [decide_eq_false (by omega)]; rfl)
        clear hc hcell
        go_wp2
        go_ret
        exact ⟨ret_bool (HF.out k hlt HN.out).symm, hal⟩
      · by_cases h2 : p.n < ix S k
        · have HN : Hid (setTo p.n S k = false) := Lib.hid (by unfold setTo; rw [decide_eq_false (by omega)]; rfl)
          clear hc hcell
          go_wp2
          go_ret
          exact ⟨ret_bool (HF.out k hlt HN.out).symm, hal⟩
        · cases k with
          | zero =>
            have hk0 : W0.cell? ⟨b, off, none⟩ = some (.int .i64 (ix S 0)) := hc 0 hlt
            clear hk1
            have HN := Lib.hid (lt_succ_all HA.out (show setTo p.n S 0 = true by unfold setTo; rw [decide_eq_true (by omega)]; rfl))
            clear hc hcell
            go_wp2
            first
              | (go_round
                 case rel => (exact ⟨0 + 1, by omega, by go_num, HN⟩)
                 case measure => (simp [intOf]; omega))
              | (refine ⟨?_, ?_⟩
                 · (exact ⟨0 + 1, by omega, by go_num, HN⟩)
                 · (simp [intOf]; omega))
          | succ k =>
            have hk0 := hc k (by omega)
            have e1 : (((k + 1 : Nat) : Int) - 1).toNat = k := by omega
            by_cases h3 : ix S k < ix S (k + 1)
            · have HN := Lib.hid (lt_succ_all HA.out (show setTo p.n S (k + 1) = true by unfold setTo; rw [decide_eq_true (by omega), Nat.add_sub_cancel, decide_eq_true h3]; simp))
              clear hc hcell
              go_wp2
              first
                | (go_round
                   case rel => (exact ⟨k + 1 + 1, by omega, by go_num, HN⟩)
                   case measure => (simp [intOf]; omega))
                | (refine ⟨?_, ?_⟩
                   · (exact ⟨k + 1 + 1, by omega, by go_num, HN⟩)
                   · (simp [intOf]; omega))
            · have HN : Hid (setTo p.n S (k + 1) = false) := Lib.hid (by unfold setTo; rw [Nat.add_sub_cancel, decide_eq_false h3]; simp)
              clear hc hcell
              go_wp2
              go_ret
              exact ⟨ret_bool (HF.out (k + 1) hlt HN.out).symm, hal⟩
    · have HN : Hid (setQ p.n S = true) := Lib.hid (by unfold setQ; rw [allR_true (fun j hj => HA.out j (by omega))])
      go_wp2
      go_ret
      exact ⟨ret_bool HN.out.symm, hal⟩

/-! ### reduct.Body -/
theorem bodyw_any (x : Int) (w : World) : Calls Tryz.prog 59 #[.int .i64 x] w fun e w' => e = .returned (.bool (decide (x < 0) || decide (1048576 < x))) ∧ w = w' := by
  by_cases h : x < 0
  · go_enter Tryz.func59, Tryz.ntmps59
    go_wp2
    go_ret
    exact ⟨ret_bool (by rw [decide_eq_true h]; rfl), rfl⟩
  · by_cases h2 : 1048576 < x
    · go_enter Tryz.func59, Tryz.ntmps59
      go_wp2
      go_ret
      exact ⟨ret_bool (by first | (simp; done) | simp [h2]), rfl⟩
    · go_enter Tryz.func59, Tryz.ntmps59
      go_wp2
      go_ret
      exact ⟨ret_bool (by simp; omega), rfl⟩

set_option maxHeartbeats 1000000 in
theorem idx_bw (v : Value) (l : List Int) (w : World) (h : Ints w v l) (g : Nat → Bool) 
    (hg : ∀ w', Below w.heap.size w w' → ∀ j, j < l.length → Calls Tryz.prog 59 #[.int .i64 (ix l j)] w' fun e w'' => e = .returned (.bool (g j)) ∧ Below w'.heap.size w' w'') :
    Calls Tryz.prog 79 #[v, .func (.func 59) #[] #[]] w fun e w' => ∃ r, e = .returned (.int .i64 r) ∧ IxP l.length g r ∧ Below w.heap.size w w' := by
  obtain ⟨a1, c1, rfl, -, hl1, -, hcell⟩ := h.form
  have HG := Lib.hid hg
  clear h hg
  go_enter Tryz.func79, Tryz.ntmps79
  go_wp2
  go_loopw [8] (fun i wx => IxR l.length g w i wx) (fun i _ => l.length - (intOf i).toNat)
  case atStart => exact ⟨0, by omega, rfl, fun j hj => absurd hj (Nat.not_lt_zero _), Below.refl _ _⟩
  case round =>
    obtain ⟨k, hk, rfl, hall, hb⟩ := hrel
    have HA := Lib.hid hall
    clear hall
    by_cases hlt : k < l.length
    · obtain ⟨b, off, rfl, hbl, hc⟩ := hcell (by omega)
      have hk1 := (bcell hb _ _ hbl).trans (hc k hlt)
      clear hc hcell
      cases g1 : g k with
      | true =>
        have HK : Hid (_ = true) := Lib.hid g1
        have HC := Lib.hid (HG.out _ hb k hlt)
        rw [g1] at HC
        clear g1
        go_wp2_with (go_at_call 59; refine (HC.out).mono ?_; rintro e w1 ⟨rfl, hb1⟩)
        go_ret
        exact ⟨_, rfl, .inr ⟨k, hlt, rfl, HK.out, HA.out⟩, bon hb hb1⟩
      | false =>
        have HN := Lib.hid (lt_succ_all HA.out g1)
        have HC := Lib.hid (HG.out _ hb k hlt)
        rw [g1] at HC
        clear g1
        go_wp2_with (go_at_call 59; refine (HC.out).mono ?_; rintro e w1 ⟨rfl, hb1⟩)
        first
          | (go_roundw
             case rel => (exact ⟨k + 1, by omega, by go_num, HN.out, bon hb hb1⟩)
             case measure => (simp [intOf]; omega))
          | (refine ⟨?_, ?_⟩
             · (exact ⟨k + 1, by omega, by go_num, HN.out, bon hb hb1⟩)
             · (simp [intOf]; omega))
    · have HN : Hid (∀ j, j < l.length → g j = false) := Lib.hid (fun j hj => HA.out j (by omega))
      go_wp2
      go_ret
      exact ⟨_, rfl, .inl ⟨rfl, HN.out⟩, hb⟩

set_option maxHeartbeats 1000000 in
theorem ctn_bw (v : Value) (l : List Int) (w : World) (h : Ints w v l) (g : Nat → Bool) 
    (hg : ∀ w', Below w.heap.size w w' → ∀ j, j < l.length → Calls Tryz.prog 59 #[.int .i64 (ix l j)] w' fun e w'' => e = .returned (.bool (g j)) ∧ Below w'.heap.size w' w'') :
    Calls Tryz.prog 51 #[v, .func (.func 59) #[] #[]] w fun e w' => e = .returned (.bool (anyR l.length g)) ∧ Below w.heap.size w w' := by
  have HI := Lib.hid (idx_bw v l w h g  hg)
  obtain ⟨a1, c1, rfl, -⟩ := h.form
  clear h hg
  go_enter Tryz.func51, Tryz.ntmps51
  go_wp2_with (go_at_call 79; refine (HI.out).mono ?_; rintro e w1 ⟨r, rfl, hr, hb1⟩; have HR := Lib.hid hr; clear hr)
  go_ret
  exact ⟨ret_bool HR.out.any, hb1⟩

set_option maxHeartbeats 4000000 in
theorem rBody_any (v vm : Value) (r : GR) (m : List Int) (w : World) (hr : RuleIs w v r) (hm : Ints w vm m) (hml : m.length ≤ 1000000000) {n : Int} (hV : BodyV r n) :
    Calls Tryz.prog 24 #[v, vm] w fun e w' => e = .returned (.bool (bodyT r m)) ∧ Below w.heap.size w w' := by
  obtain ⟨vh, vb, vw, rfl, hsl⟩ := hr
  have hal := bal (Below.refl w.heap.size w) (.cells #[.bool r.choice, vh, .bool r.sum, .int .i64 r.bound, vb, vw] 51)
  have HBX := Lib.hid (Blk.new w [.bool r.choice, vh, .bool r.sum, .int .i64 r.bound, vb, vw] 51)
  obtain ⟨a1, c1, rfl, -, hl1, -, -⟩ := hsl.head.form
  obtain ⟨a2, c2, rfl, -⟩ := hsl.body.form
  obtain ⟨a3, c3, rfl, -⟩ := hsl.wts.form
  obtain ⟨am, cm, rfl, -⟩ := hm.form
  have HR : Hid (RuleIs (w.alloc (.cells #[.bool r.choice, .slice a1 r.head.length c1, .bool r.sum, .int .i64 r.bound, .slice a2 r.body.length c2, .slice a3 r.w.length c3] 51)) (.agg #[.bool r.choice, .slice a1 r.head.length c1, .bool r.sum, .int .i64 r.bound, .slice a2 r.body.length c2, .slice a3 r.w.length c3]) r) := Lib.hid ⟨_, _, _, rfl, hsl.below hal⟩
  have HB := Lib.hid (hsl.body.below hal)
  have HW := Lib.hid (hsl.wts.below hal)
  have HM := Lib.hid (hm.below hal)
  have HML := Lib.hid hml
  have HOK := Lib.hid hV.ok
  have hlen := hV.ok.len
  have hlen' : decide ((8000 : Int) < r.body.length) = false := decide_eq_false (by omega)
  have H0 : Hid (decide ((0 : Int) ∈ r.body) = false) := Lib.hid (decide_eq_false fun h => (ordered_lit hV.ord h).1 rfl)
  have H1 : Hid (decide ((-9223372036854775808 : Int) ∈ r.body) = false) := Lib.hid (decide_eq_false fun h => by have := ordered_lit hV.ord h; have := hV.rng; omega)
  have kx := HBX.out.cell
  have hlt := HBX.out.lt
  have HAL := Lib.hid hal
  have HVW := Lib.hid hV
  clear hsl hm hml hV hal
  cases hs : r.sum with
  | false =>
    rw [hs] at HR HB HW HM HBX HAL kx hlt
    clear hs
    go_enter Tryz.func24, Tryz.ntmps24
    go_upto_region 5 with (go_at_call 58; (with_reducible refine (contains_any _ r.body _ _ HB.out).mono ?_); rintro e w1 ⟨e1, rfl⟩; (first | rw [H0.out] at e1 | rw [H1.out] at e1); subst e1)
    generalize w.alloc (.cells #[.bool r.choice, .slice a1 r.head.length c1, .bool false, .int .i64 r.bound, .slice a2 r.body.length c2, .slice a3 r.w.length c3] 51) = W at *
    have hd : Below W.heap.size W W.drew := (Below.refl _ _).drew
    have kd : ∀ o, W.drew.cell? ⟨w.heap.size, o, none⟩ = _ := kx
    go_region_with (first
      | (go_at_call 61; (with_reducible refine (member_any _ m _ (HM.out.below hd) HML.out).mono ?_); rintro e w3 ⟨mb, rfl, hin, hb3⟩; have HIN := Lib.hid hin; have HB3 := Lib.hid (hd.trans hb3); have kx3 := fun o => (bcell HB3.out _ o hlt).trans (kx o); clear hin hb3)
      | (go_at_call 60; (with_reducible refine (bodyf_any _ r m mb _ (HR.out.below HB3.out) HIN.out HOK.out).mono ?_); rintro e w4 ⟨rfl, hb4⟩; have HB4 := Lib.hid (bon HB3.out hb4); clear hb4))
    all_goals go_wp2
    all_goals go_ret
    all_goals exact ⟨rfl, HAL.out.trans (HB4.out.mono HAL.out.size)⟩
  | true =>
    rw [hs] at HR HB HW HM HBX HAL kx hlt
    have hwl : r.w.length = r.body.length := HOK.out.wlen hs
    have hwl2 : ((r.w.length : Int) != r.body.length) = false := by simp [hwl]
    have HWT : Hid (anyR r.w.length (fun j => decide (ix r.w j < 0) || decide (1048576 < ix r.w j)) = false) := Lib.hid (anyR_false fun j hj => by have := HOK.out.w hs j hj; rw [decide_eq_false (by omega), decide_eq_false (by omega)]; rfl)
    clear hs hwl
    go_enter Tryz.func24, Tryz.ntmps24
    go_upto_region 5 with (first | (go_at_call 58; (with_reducible refine (contains_any _ r.body _ _ HB.out).mono ?_); rintro e w1 ⟨e1, rfl⟩; (first | rw [H0.out] at e1 | rw [H1.out] at e1); subst e1) | (go_at_call 51; (with_reducible refine (ctn_bw _ r.w _ HW.out (fun j => decide (ix r.w j < 0) || decide (1048576 < ix r.w j)) (fun w' _ j _ => (bodyw_any _ w').mono fun e w'' ⟨e1, e2⟩ => ⟨e1, e2 ▸ Below.refl _ _⟩)).mono ?_); rintro e w2 ⟨e2, hb2⟩; rw [HWT.out] at e2; subst e2; have HB2 := Lib.hid hb2; have kx2 := fun o => (bcell hb2 _ o hlt).trans (kx o); have hlt2 := Nat.lt_of_lt_of_le hlt hb2.size; clear hb2))
    have hd : Below w2.heap.size w2 w2.drew := (Below.refl _ _).drew
    have kd : ∀ o, w2.drew.cell? ⟨w.heap.size, o, none⟩ = _ := kx2
    go_region_with (first
      | (go_at_call 61; (with_reducible refine (member_any _ m _ (HM.out.below (HB2.out.trans (hd.mono HB2.out.size))) HML.out).mono ?_); rintro e w3 ⟨mb, rfl, hin, hb3⟩; have HIN := Lib.hid hin; have HB3 := Lib.hid (hd.trans hb3); have kx3 := fun o => (bcell HB3.out _ o hlt2).trans (kx2 o); clear hin hb3)
      | (go_at_call 60; (with_reducible refine (bodyf_any _ r m mb _ (HR.out.below (bon HB2.out HB3.out)) HIN.out HOK.out).mono ?_); rintro e w4 ⟨rfl, hb4⟩; have HB4 := Lib.hid (bon HB2.out (bon HB3.out hb4)); clear hb4))
    all_goals go_wp2
    all_goals go_ret
    all_goals exact ⟨rfl, HAL.out.trans (HB4.out.mono HAL.out.size)⟩

end Go.Proofs.YtoahecjdkgeamaaGreatDoor

/- loops: support.internal, weight, impossible. -/
namespace Go.Proofs.YtoahecjdkgeamaaGreatDoor
open Go.RowKit


/-- A rule that may support, its body's variable, the set. -/
structure SU where
  r : GR
  b : Int
  S : List Int

def SupIs (w : World) (v : Value) (u : SU) : Prop := ∃ vh vb vw vs, v = .agg #[.bool u.r.choice, vh, .bool u.r.sum, .int .i64 u.r.bound, vb, vw, .int .i64 u.b, vs] ∧ RuleSl w u.r vh vb vw ∧ Ints w vs u.S ∧ InI u.b

theorem SupIs.below {w w' : World} {v : Value} {u : SU} (h : SupIs w v u) (hb : Below w.heap.size w w') : SupIs w' v u :=
  let ⟨vh, vb, vw, vs, e, h1, h2, h3⟩ := h; ⟨vh, vb, vw, vs, e, h1.below hb, h2.below hb, h3⟩

def intB (S : List Int) (l : Int) : Bool := decide (0 < l) && decide (l ∈ S)

/-- The weight of the external literals for which g holds. -/
def wgt (u : SU) (g : Int → Bool) : Nat → Int
  | 0 => 0
  | k + 1 => wgt u g k + if !intB u.S (ix u.r.body k) && g (ix u.r.body k) then ix u.r.w k else 0


/-- A body whose weights stay small. -/
structure SUok (u : SU) : Prop where
  lits : ∀ k, k < u.r.body.length → 1 ≤ (ix u.r.body k).natAbs ∧ (ix u.r.body k).natAbs ≤ 1000000
  wts : u.r.sum = true → u.r.w.length = u.r.body.length ∧ (∀ k, k < u.r.w.length → 1 ≤ ix u.r.w k) ∧ ∀ k, k ≤ u.r.w.length → 0 ≤ sumTo u.r.w k ∧ sumTo u.r.w k ≤ 1048576
  bound : 0 ≤ u.r.bound ∧ u.r.bound ≤ 1048576
  head : ∀ k, k < u.r.head.length → 1 ≤ ix u.r.head k ∧ ix u.r.head k ≤ 1000000
  b : 1 ≤ u.b ∧ u.b ≤ 1000000
  hlen : u.r.head.length ≤ 1000000

end Go.Proofs.YtoahecjdkgeamaaGreatDoor

/- loops: support.others (slices.DeleteFunc). -/
namespace Go.Proofs.YtoahecjdkgeamaaGreatDoor
open Go.RowKit


def keepF (q : Int → Bool) (l : List Int) (j : Nat) : List Int := (l.take j).filter fun x => !q x

theorem keepF_succ {q : Int → Bool} {l : List Int} {j : Nat} (hj : j < l.length) : keepF q l (j + 1) = if q (ix l j) then keepF q l j else keepF q l j ++ [ix l j] := by
  unfold keepF
  rw [take_ix l j hj, List.filter_append]
  cases h : q (ix l j) <;> simp [h]

theorem keepF_le (q : Int → Bool) (l : List Int) (j : Nat) : (keepF q l j).length ≤ j := by
  have h := List.length_filter_le (fun x => !q x) (l.take j)
  have h2 := List.length_take_le j l
  unfold keepF
  omega

theorem ix_push (l : List Int) (x : Int) : ix (l ++ [x]) l.length = x := by simp [ix]

/-- The cells under way. -/
def DelSt (w : World) (g : Nat) (q : Int → Bool) (l : List Int) (N j : Nat) (wx : World) : Prop :=
  ∃ D : List Value, D.length = N ∧ Blk wx g D 3 ∧ (∀ k, k < (keepF q l j).length → D[k]? = some (.int .i64 (ix (keepF q l j) k))) ∧ (∀ k, j ≤ k → k < l.length → D[k]? = some (.int .i64 (ix l k))) ∧ Lim w.heap.size [g] w wx
theorem DelSt.keep {w wx : World} {g N j : Nat} {q : Int → Bool} {l : List Int} (h : DelSt w g q l N j wx) (hj : j < l.length) (hN : l.length ≤ N) (hq : q (ix l j) = false) :
    DelSt w g q l N (j + 1) (wx.setCell ⟨g, (keepF q l j).length, none⟩ (.int .i64 (ix l j))) := by
  obtain ⟨D, h1, h2, h3, h4, h5⟩ := h
  have hle := keepF_le q l j
  have e : keepF q l (j + 1) = keepF q l j ++ [ix l j] := by rw [keepF_succ hj, hq]; rfl
  refine ⟨D.set (keepF q l j).length (.int .i64 (ix l j)), by simpa using h1, h2.set _ _, fun k hk => ?_, fun k hk hk2 => ?_, h5.trans (.setCell _ (.inl (by simp)))⟩
  · rw [e] at hk ⊢
    simp only [List.length_append, List.length_singleton] at hk
    by_cases hke : k = (keepF q l j).length
    · subst hke
      rw [List.getElem?_set_self (by omega), ix_push]
    · rw [List.getElem?_set_ne (by omega), h3 k (by omega)]
      congr 2
      simp [ix, List.getElem?_append_left (show k < (keepF q l j).length by omega)]
  · rw [List.getElem?_set_ne (by omega)]
    exact h4 k (by omega) hk2

theorem DelSt.drop {w wx : World} {g N j : Nat} {q : Int → Bool} {l : List Int} (h : DelSt w g q l N j wx) (hj : j < l.length) (hq : q (ix l j) = true) : DelSt w g q l N (j + 1) wx := by
  obtain ⟨D, h1, h2, h3, h4, h5⟩ := h
  have e : keepF q l (j + 1) = keepF q l j := by rw [keepF_succ hj, hq]; rfl
  exact ⟨D, h1, h2, by rw [e]; exact h3, fun k hk => h4 k (by omega), h5⟩

theorem DelSt.on {w wx w' : World} {g N j : Nat} {q : Int → Bool} {l : List Int} (h : DelSt w g q l N j wx) (hb : Below wx.heap.size wx w') : DelSt w g q l N j w' := by
  obtain ⟨D, h1, h2, h3, h4, h5⟩ := h
  exact ⟨D, h1, h2.below hb, h3, h4, h5.trans (.of_below hb h5.size)⟩

end Go.Proofs.YtoahecjdkgeamaaGreatDoor

/- loops: the closure of Unfounded; others, impossible. -/
namespace Go.Proofs.YtoahecjdkgeamaaGreatDoor
open Go.RowKit



/-- The assignment that Unfounded's closure has captured. -/
def InU (w : World) (ab : Nat) (a : List Int) : Prop := ∃ va, Blk w ab [va] 42 ∧ Bytes8 w va a

theorem InU.below {w w' : World} {ab : Nat} {a : List Int} (h : InU w ab a) (hb : Below w.heap.size w w') : InU w' ab a :=
  let ⟨va, h1, h2⟩ := h; ⟨va, h1.below hb, h2.below hb⟩

/-- The other heads. -/
def oth (u : SU) : List Int := if u.r.choice then [] else keepF (fun x => decide (x ∈ u.S)) u.r.head u.r.head.length

def impB (u : SU) : Bool := if u.r.sum then decide (wgt u (fun _ => true) u.r.body.length < u.r.bound) else anyR u.r.body.length (fun j => intB u.S (ix u.r.body j))

end Go.Proofs.YtoahecjdkgeamaaGreatDoor

/- loops: support.excluded, with Unfounded's closure. -/
namespace Go.Proofs.YtoahecjdkgeamaaGreatDoor
open Go.RowKit



section
variable {w : World} {sb fb ab : Nat} {u : SU} {a : List Int}

end

def ex2 (u : SU) (a : List Int) : Bool := !u.r.sum && anyR u.r.body.length (fun j => offB a (ix u.r.body j))
section
variable {w : World} {sb fb ab : Nat} {u : SU} {a : List Int}

end

end Go.Proofs.YtoahecjdkgeamaaGreatDoor

/- loops: the iterator supports$1. -/
namespace Go.Proofs.YtoahecjdkgeamaaGreatDoor
open Go.RowKit
attribute [local go_sem] Oper.semAt_some


/-- A support as a value of the world in which the program was handed over. -/
abbrev SupV (w : World) := { x : Value × SU // SupIs w x.1 x.2 ∧ SUok x.2 }
/-- What the iterator leans on. -/
structure SupSt (wi w : World) (p : GP) (S : List Int) (pb sb : Nat) (vn vs vr vm vset : Value) : Prop where
  below : Below wi.heap.size wi w
  pb : Blk w pb [.int .i64 p.n, vn, vs, vr, vm] 27
  sb : Blk w sb [vset] 23

theorem SupSt.on {wi w w' : World} {p : GP} {S : List Int} {pb sb : Nat} {vn vs vr vm vset : Value} (h : SupSt wi w p S pb sb vn vs vr vm vset) (hb : Below w.heap.size w w') : SupSt wi w' p S pb sb vn vs vr vm vset :=
  ⟨h.below.trans (hb.mono h.below.size), h.pb.below hb, h.sb.below hb⟩

theorem SupSt.lim {wi w0 w w' : World} {p : GP} {S : List Int} {pb sb rb : Nat} {vn vs vr vm vset : Value} (h : SupSt wi w p S pb sb vn vs vr vm vset) (hl : Lim w0.heap.size [rb] w w') (hN : wi.heap.size ≤ w0.heap.size) (hrb : wi.heap.size ≤ rb) (hp : pb < w0.heap.size ∧ pb ≠ rb) (hs : sb < w0.heap.size ∧ sb ≠ rb) : SupSt wi w' p S pb sb vn vs vr vm vset :=
  ⟨h.below.trans ((hl.mono hN (fun i hi _ => hi)).below (fun i hi => by simp only [List.mem_singleton] at hi; omega)), h.pb.same (hl.block _ hp.1 (by simpa using hp.2)), h.sb.same (hl.block _ hs.1 (by simpa using hs.2))⟩

theorem grown_of_below {w w' : World} (h : Below w.heap.size w w') : w.grownBy w' none := ⟨h.os, h.tape, h.output, h.size, fun k hk _ => h.block k hk⟩

theorem AbidesFrom.below {β : Type} {B : Nat} {J : β → World → Prop} (h : AbidesFrom B J) {s : β} {w w' : World} (hs : J s w) (hb : Below w.heap.size w w') : J s w' :=
  h s w w' none hs (grown_of_below hb) (fun r e => by cases e)

end Go.Proofs.YtoahecjdkgeamaaGreatDoor

/- loops: the iterator supports$1: its contract. -/
namespace Go.Proofs.YtoahecjdkgeamaaGreatDoor
open Go.RowKit

attribute [local go_sem] Oper.semAt_some

end Go.Proofs.YtoahecjdkgeamaaGreatDoor

/- loops: all: a range over the supports. -/
namespace Go.Proofs.YtoahecjdkgeamaaGreatDoor
open Go.RowKit Go.Shelf
attribute [local go_sem] Oper.semAt_some

theorem SupV.form {w : World} (x : SupV w) : ∃ vh vb vw vs, x.1.1 = .agg #[.bool x.1.2.r.choice, vh, .bool x.1.2.r.sum, .int .i64 x.1.2.r.bound, vb, vw, .int .i64 x.1.2.b, vs] ∧ (∃ a n c, vh = .slice a n c) ∧ (∃ a n c, vb = .slice a n c) ∧ (∃ a n c, vw = .slice a n c) ∧ ∃ a n c, vs = .slice a n c := by
  obtain ⟨vh, vb, vw, vs, e, h1, h2, h3⟩ := x.2.1
  obtain ⟨⟨_, _, e1, -⟩, -⟩ := h1.head
  obtain ⟨⟨_, _, e2, -⟩, -⟩ := h1.body
  obtain ⟨⟨_, _, e3, -⟩, -⟩ := h1.wts
  obtain ⟨⟨_, _, e4, -⟩, -⟩ := h2
  exact ⟨_, _, _, _, e, ⟨_, _, _, e1⟩, ⟨_, _, _, e2⟩, ⟨_, _, _, e3⟩, ⟨_, _, _, e4⟩⟩

end Go.Proofs.YtoahecjdkgeamaaGreatDoor

/- loops: Unfounded. -/
namespace Go.Proofs.YtoahecjdkgeamaaGreatDoor
open Go.RowKit

theorem ruleE_at {p : GP} (h : validE p = 0) {i : Nat} (hi : i < p.rules.length) : ruleE (ixR p.rules i) p.n = 0 := by
  unfold validE at h
  split at h
  · omega
  split at h
  · omega
  split at h
  · rename_i h3; exact absurd h h3
  rename_i h3
  exact rulesFrom_zero p.rules.length 0 (Decidable.not_not.1 h3) i (by omega) (by omega)

theorem inc_pos {l : List Int} {n : Int} (h : increasingB l n = true) {j : Nat} (hj : j < l.length) : 0 < ix l j ∧ ix l j ≤ n := by
  have h1 := ordered_lit (increasing_ordered h) (ix_mem hj)
  unfold increasingB at h
  simp only [Bool.and_eq_true] at h
  have h2 := allR_get h.2 j hj
  simp only [decide_eq_true_eq] at h2
  omega

theorem inc_ge {l : List Int} {n : Int} (h : increasingB l n = true) : ∀ j : Nat, j < l.length → (j : Int) + 1 ≤ ix l j
  | 0, hj => by have := inc_pos h hj; omega
  | j + 1, hj => by
    have h1 := inc_ge h j (by omega)
    have h2 := ordered_lt (increasing_ordered h) (j + 1) hj j (by omega)
    have h3 := inc_pos h hj
    have h4 := inc_pos h (show j < l.length by omega)
    unfold litKey at h2
    rw [if_pos (by omega), if_pos (by omega)] at h2
    omega

end Go.Proofs.YtoahecjdkgeamaaGreatDoor

/- complete.Supported: its contract. -/
namespace Go.Proofs.YtoahecjdkgeamaaGreatDoor
open Go.RowKit

theorem rule_parts0 {r : GR} {n : Int} (h : ruleE r n = 0) : increasingB r.head n = true := by
  unfold ruleE at h
  split at h
  · cases h
  · split at h
    · cases h
    · rename_i h1 h2
      cases hi : increasingB r.head n with
      | true => rfl
      | false => exact absurd (.inl hi) h2

/-! ### Counting in a map of ints -/
/-- The map in block bm is positive where P holds, and there alone; nothing before W0 has turned. -/
def CntSt (W0 : World) (bm : Nat) (P : Int → Prop) (B : Int) (wx : World) : Prop :=
  ∃ G, MapIs (Value.int .i64) wx bm (mapI G) ∧ (∀ y, 0 ≤ G y ∧ G y ≤ B ∧ (0 < G y ↔ P y)) ∧ Below W0.heap.size W0 wx

theorem CntSt.start (W0 : World) : CntSt W0 W0.heap.size (fun _ => False) 0 (W0.alloc (.map #[] 0)) := by
  refine ⟨fun _ => 0, ?_, fun y => by simp, bal (Below.refl _ _) _⟩
  have : mapI (fun _ => 0) = fun _ => none := by funext x; simp [mapI]
  rw [this]; exact MapIs.made W0

theorem CntSt.on {W0 wx wy : World} {bm : Nat} {P : Int → Prop} {B : Int} (h : CntSt W0 bm P B wx) (hb : Below wx.heap.size wx wy) : CntSt W0 bm P B wy :=
  let ⟨G, h1, h2, h3⟩ := h; ⟨G, h1.below hb, h2, bon h3 hb⟩

theorem CntSt.same {W0 wx : World} {bm : Nat} {P Q : Int → Prop} {B C : Int} (h : CntSt W0 bm P B wx) (hp : ∀ y, P y ↔ Q y) (hB : B ≤ C) : CntSt W0 bm Q C wx :=
  let ⟨G, h1, h2, h3⟩ := h; ⟨G, h1, fun y => ⟨(h2 y).1, Int.le_trans (h2 y).2.1 hB, (h2 y).2.2.trans (hp y)⟩, h3⟩

theorem CntSt.put {W0 wx w7 : World} {bm : Nat} {P Q : Int → Prop} {B : Int} {G : Int → Int} {x : Int} (hG : ∀ y, 0 ≤ G y ∧ G y ≤ B ∧ (0 < G y ↔ P y)) (hb : Below W0.heap.size W0 wx) (hbm : W0.heap.size ≤ bm)
    (hm : MapIs (Value.int .i64) w7 bm (upd (mapI G) x (some (.int .i64 (G x + 1))))) (hg : wx.grownBy w7 (some bm)) (hQ : ∀ y, Q y ↔ P y ∨ y = x) : CntSt W0 bm Q (B + 1) w7 := by
  have hx := hG x
  have hsz := hb.size
  refine ⟨setI G x (G x + 1), by rw [mapI_set (by omega)]; exact hm, fun y => ?_, hb.trans ⟨hg.os, hg.tape, hg.output, hg.size, fun i hi => hg.block i (by omega) (fun e => by have := Option.some.inj e; omega)⟩⟩
  rw [hQ y]
  by_cases e : y = x
  · subst e
    have e2 : setI G y (G y + 1) y = G y + 1 := by simp [setI]
    rw [e2]
    exact ⟨by omega, by omega, ⟨fun _ => .inr rfl, fun _ => by omega⟩⟩
  · have e2 : setI G x (G x + 1) y = G y := by simp [setI, e]
    rw [e2]
    have := hG y
    exact ⟨this.1, by omega, ⟨fun h => .inl (this.2.2.1 h), fun h => this.2.2.2 (h.resolve_right e)⟩⟩

/-- x is in the head of a rule whose body is true, among the first k rules and the first j heads of the next. -/
def supP (p : GP) (m : List Int) (k : Nat) (hd : List Int) (x : Int) : Prop := (∃ i, i < k ∧ bodyT (ixR p.rules i) m = true ∧ x ∈ (ixR p.rules i).head) ∨ x ∈ hd

theorem supP_next {p : GP} {m : List Int} {k : Nat} (h : bodyT (ixR p.rules k) m = true) (x : Int) : supP p m k ((ixR p.rules k).head.take (ixR p.rules k).head.length) x ↔ supP p m (k + 1) [] x := by
  unfold supP
  rw [List.take_length]
  constructor
  · rintro (⟨i, hi, h1, h2⟩ | h1)
    · exact .inl ⟨i, by omega, h1, h2⟩
    · exact .inl ⟨k, by omega, h, h1⟩
  · rintro (⟨i, hi, h1, h2⟩ | h1)
    · by_cases e : i = k
      · subst e; exact .inr h2
      · exact .inl ⟨i, by omega, h1, h2⟩
    · cases h1

theorem supP_skip {p : GP} {m : List Int} {k : Nat} (h : bodyT (ixR p.rules k) m = false) (x : Int) : supP p m k [] x ↔ supP p m (k + 1) [] x := by
  unfold supP
  constructor
  · rintro (⟨i, hi, h1, h2⟩ | h1)
    · exact .inl ⟨i, by omega, h1, h2⟩
    · cases h1
  · rintro (⟨i, hi, h1, h2⟩ | h1)
    · by_cases e : i = k
      · subst e; rw [h] at h1; cases h1
      · exact .inl ⟨i, by omega, h1, h2⟩
    · cases h1

theorem supP_push {p : GP} {m : List Int} {k j : Nat} (hj : j < (ixR p.rules k).head.length) (x : Int) : supP p m k ((ixR p.rules k).head.take (j + 1)) x ↔ supP p m k ((ixR p.rules k).head.take j) x ∨ x = ix (ixR p.rules k).head j := by
  unfold supP
  rw [take_ixM _ j hj, List.mem_append, List.mem_singleton, or_assoc]

/-- m is supported. -/
def suppB (p : GP) (m : List Int) : Bool := modelsB p m && allR m.length (fun j => anyR p.rules.length (fun i => bodyT (ixR p.rules i) m && decide (ix m j ∈ (ixR p.rules i).head)))

theorem supc_any (x : Int) (G : Int → Int) (b cb : Nat) (w : World) (hb : Blk w cb [.map (some b)] 79) (hm : MapIs (Value.int .i64) w b (mapI G)) :
    Calls Tryz.prog 52 #[.int .i64 x, .pointer (some ⟨cb, 0, none⟩)] w fun e w' => e = .returned (.bool (decide (G x = 0))) ∧ w = w' := by
  have hlk := mapI_look hm x
  have kb := hb.cell 0
  clear hm hb
  go_enter Tryz.func52, Tryz.ntmps52
  go_wp2
  go_ret
  exact ⟨ret_bool (by first | rfl | (simp; done) | (by_cases e : G x = 0 <;> simp [e])), rfl⟩

set_option maxHeartbeats 1000000 in
theorem idx_spc (v : Value) (l : List Int) (w : World) (h : Ints w v l) (g : Nat → Bool) (cap : Value)
    (hg : ∀ w', Below w.heap.size w w' → ∀ j, j < l.length → Calls Tryz.prog 52 #[.int .i64 (ix l j), cap] w' fun e w'' => e = .returned (.bool (g j)) ∧ Below w'.heap.size w' w'') :
    Calls Tryz.prog 79 #[v, .func (.func 52) #[] #[cap]] w fun e w' => ∃ r, e = .returned (.int .i64 r) ∧ IxP l.length g r ∧ Below w.heap.size w w' := by
  obtain ⟨a1, c1, rfl, -, hl1, -, hcell⟩ := h.form
  have HG := Lib.hid hg
  clear h hg
  go_enter Tryz.func79, Tryz.ntmps79
  go_wp2
  go_loopw [8] (fun i wx => IxR l.length g w i wx) (fun i _ => l.length - (intOf i).toNat)
  case atStart => exact ⟨0, by omega, rfl, fun j hj => absurd hj (Nat.not_lt_zero _), Below.refl _ _⟩
  case round =>
    obtain ⟨k, hk, rfl, hall, hb⟩ := hrel
    have HA := Lib.hid hall
    clear hall
    by_cases hlt : k < l.length
    · obtain ⟨b, off, rfl, hbl, hc⟩ := hcell (by omega)
      have hk1 := (bcell hb _ _ hbl).trans (hc k hlt)
      clear hc hcell
      cases g1 : g k with
      | true =>
        have HK : Hid (_ = true) := Lib.hid g1
        have HC := Lib.hid (HG.out _ hb k hlt)
        rw [g1] at HC
        clear g1
        go_wp2_with (go_at_call 52; refine (HC.out).mono ?_; rintro e w1 ⟨rfl, hb1⟩)
        go_ret
        exact ⟨_, rfl, .inr ⟨k, hlt, rfl, HK.out, HA.out⟩, bon hb hb1⟩
      | false =>
        have HN := Lib.hid (lt_succ_all HA.out g1)
        have HC := Lib.hid (HG.out _ hb k hlt)
        rw [g1] at HC
        clear g1
        go_wp2_with (go_at_call 52; refine (HC.out).mono ?_; rintro e w1 ⟨rfl, hb1⟩)
        first
          | (go_roundw
             case rel => (exact ⟨k + 1, by omega, by go_num, HN.out, bon hb hb1⟩)
             case measure => (simp [intOf]; omega))
          | (refine ⟨?_, ?_⟩
             · (exact ⟨k + 1, by omega, by go_num, HN.out, bon hb hb1⟩)
             · (simp [intOf]; omega))
    · have HN : Hid (∀ j, j < l.length → g j = false) := Lib.hid (fun j hj => HA.out j (by omega))
      go_wp2
      go_ret
      exact ⟨_, rfl, .inl ⟨rfl, HN.out⟩, hb⟩

set_option maxHeartbeats 1000000 in
theorem ctn_spc (v : Value) (l : List Int) (w : World) (h : Ints w v l) (g : Nat → Bool) (cap : Value)
    (hg : ∀ w', Below w.heap.size w w' → ∀ j, j < l.length → Calls Tryz.prog 52 #[.int .i64 (ix l j), cap] w' fun e w'' => e = .returned (.bool (g j)) ∧ Below w'.heap.size w' w'') :
    Calls Tryz.prog 51 #[v, .func (.func 52) #[] #[cap]] w fun e w' => e = .returned (.bool (anyR l.length g)) ∧ Below w.heap.size w w' := by
  have HI := Lib.hid (idx_spc v l w h g cap hg)
  obtain ⟨a1, c1, rfl, -⟩ := h.form
  clear h hg
  go_enter Tryz.func51, Tryz.ntmps51
  go_wp2_with (go_at_call 79; refine (HI.out).mono ?_; rintro e w1 ⟨r, rfl, hr, hb1⟩; have HR := Lib.hid hr; clear hr)
  go_ret
  exact ⟨ret_bool HR.out.any, hb1⟩

def SupRel (p : GP) (m : List Int) (W2 : World) (i : Value) (wx : World) : Prop :=
  ∃ k : Nat, k ≤ p.rules.length ∧ i = .int .i64 k ∧ CntSt W2 W2.heap.size (supP p m k []) (4000 * k) wx ∧ Blk wx (W2.heap.size + 1) [.map (some W2.heap.size)] 79

def SupRel2 (p : GP) (m : List Int) (W2 : World) (k : Nat) (i : Value) (wx : World) : Prop :=
  ∃ j : Nat, j ≤ (ixR p.rules k).head.length ∧ i = .int .i64 j ∧ CntSt W2 W2.heap.size (supP p m k ((ixR p.rules k).head.take j)) (4000 * k + j) wx ∧ Blk wx (W2.heap.size + 1) [.map (some W2.heap.size)] 79

theorem supp_end {p : GP} {m : List Int} {G : Int → Int} (hm : modelsB p m = true) (hG : ∀ y, 0 ≤ G y ∧ (0 < G y ↔ supP p m p.rules.length [] y)) : (!anyR m.length (fun j => decide (G (ix m j) = 0))) = suppB p m := by
  unfold suppB
  rw [hm, Bool.true_and, ← allR_not]
  congr 1
  unfold anyR
  rw [Bool.eq_iff_iff, List.any_eq_true, List.any_eq_true]
  have key : ∀ j, (decide (G (ix m j) = 0) = true ↔ (!(List.range p.rules.length).any fun i => bodyT (ixR p.rules i) m && decide (ix m j ∈ (ixR p.rules i).head)) = true) := fun j => by
    have h1 := hG (ix m j)
    rw [decide_eq_true_eq, Bool.not_eq_true', List.any_eq_false]
    constructor
    · intro h0 i hi hc
      rw [Bool.and_eq_true, decide_eq_true_eq] at hc
      have := h1.2.2 (.inl ⟨i, List.mem_range.1 hi, hc.1, hc.2⟩)
      omega
    · intro h0
      by_cases e : G (ix m j) = 0
      · exact e
      · rcases h1.2.1 (by omega) with ⟨i, hi, h2, h3⟩ | h2
        · exact absurd (by rw [h2, decide_eq_true h3]; rfl) (h0 i (List.mem_range.2 hi))
        · cases h2
  constructor
  · rintro ⟨j, hj, h⟩; exact ⟨j, hj, (key j).1 h⟩
  · rintro ⟨j, hj, h⟩; exact ⟨j, hj, (key j).2 h⟩

set_option maxHeartbeats 4000000 in
set_option maxRecDepth 100000 in
theorem supported_any (v vm : Value) (p : GP) (m : List Int) (w : World) (h : ProgIs w v p) (hm : Ints w vm m) :
    Calls Tryz.prog 20 #[v, vm] w fun e w' => e = .returned (.bool (decide (validE p = 0) && (setQ p.n m && suppB p m))) ∧ Below w.heap.size w w' := by
  have h0 := h
  obtain ⟨vn, vs, vr, vmn, rfl, hps⟩ := h
  have hal := bal (Below.refl w.heap.size w) (.cells #[.int .i64 p.n, vn, vs, vr, vmn] 27)
  have HBX := Lib.hid (Blk.new w [.int .i64 p.n, vn, vs, vr, vmn] 27)
  have kx := HBX.out.cell
  have hlt := HBX.out.lt
  have HP := Lib.hid (h0.below hal)
  have HM := Lib.hid (hm.below hal)
  obtain ⟨a1, c1, rfl, -, hl1, -, hcellR⟩ := hps.rules.form
  have HCR := Lib.hid hcellR
  have HAL := Lib.hid hal
  obtain ⟨am, cm, rfl, -, -, -, hcellm⟩ := hm.form
  clear h0 hm hal hps hcellR hcellm
  by_cases hv : validE p = 0
  · have hve : (validE p != 0) = false := by simp [hv]
    cases hs : setQ p.n m with
    | true =>
      have HS := Lib.hid hs
      have hV := validP hv
      have hpn := hV.n
      have hpr := hV.rules
      have HCE : Hid (checkE p m = 0) := Lib.hid (by unfold checkE; rw [if_neg (by simp [hv]), hs]; rfl)
      have HBV : Hid (∀ k, k < p.rules.length → BodyV (ixR p.rules k) p.n) := Lib.hid (fun k hk => bodyV_valid hv hk)
      have hml := inc_le hs hpn.1
      cases hmo : modelsB p m with
      | true =>
        have HMO := Lib.hid hmo
        have HF : Hid ((decide (validE p = 0) && (true && suppB p m)) = suppB p m) := Lib.hid (by rw [decide_eq_true hv]; rfl)
        have HHL : Hid (∀ k, k < p.rules.length → (ixR p.rules k).head.length ≤ 4000 ∧ ∀ x ∈ (ixR p.rules k).head, InI x) := Lib.hid (fun k hk => by
          have h1 := (rule_parts0 (ruleE_at hv hk))
          refine ⟨?_, fun x hx => ?_⟩
          · rcases Nat.eq_zero_or_pos (ixR p.rules k).head.length with e | e
            · omega
            · have := inc_ge h1 ((ixR p.rules k).head.length - 1) (by omega)
              have h2 := inc_pos h1 (show (ixR p.rules k).head.length - 1 < (ixR p.rules k).head.length by omega)
              omega
          · obtain ⟨j, hj, rfl⟩ := mem_ix.1 hx
            have := inc_pos h1 hj
            unfold InI; omega)
        clear hv hs hV hmo
        have hmm := @run_makeMap Tryz.prog
        go_enter Tryz.func20, Tryz.ntmps20
        go_wp2_with (first | (go_at_call 22; (with_reducible refine (valid_any _ p _ HP.out).mono ?_); rintro e w1 ⟨e1, hb1⟩; subst e1; have kx1 := fun o => (bcell hb1 _ o hlt).trans (kx o); have hz1 := hb1.size; have HB1 := Lib.hid hb1; have hlt1 := Nat.lt_of_lt_of_le hlt hz1; clear hb1) | (go_at_call 47; (with_reducible refine (cset_any _ _ p m _ (HP.out.below HB1.out) (HM.out.below HB1.out)).mono ?_); rintro e w2 ⟨e2, hb2⟩; rw [HS.out] at e2; subst e2; have kx2 := fun o => (bcell hb2 _ o hlt1).trans (kx1 o); have HB2 := Lib.hid (bon HB1.out hb2); have hlt2 := Nat.lt_of_lt_of_le hlt1 hb2.size; clear hb2) | (go_at_call 27; (with_reducible refine (models_any _ _ p m _ (HP.out.below HB2.out) (HM.out.below HB2.out)).mono ?_); rintro e w3 ⟨e3, hb3⟩; rw [HCE.out, HMO.out] at e3; subst e3; have kx3 := fun o => (bcell hb3 _ o hlt2).trans (kx2 o); have HB3 := Lib.hid (bon HB2.out hb3); have hlt3 := Nat.lt_of_lt_of_le hlt2 hb3.size; clear hb3))
        clear kx1 kx hz1 hmm
        have hst := CntSt.start w3
        have HST := Lib.hid hst
        clear hst
        go_loopw [33] (fun i wx => SupRel p m w3 i wx) (fun i _ => p.rules.length - (intOf i).toNat)
        case atStart => exact ⟨0, Nat.zero_le _, rfl, (HST.out.on (bal (Below.refl _ _) _)).same (fun y => by simp [supP]) (by simp), Blk.newAt _ _ _ (by simp)⟩
        case round =>
          obtain ⟨k, hk, rfl, hst, hbk⟩ := hrel
          have HSK := Lib.hid hst
          have HBK := Lib.hid hbk
          obtain ⟨G, hmap, hG, hbl⟩ := hst
          have hbw : Below w.heap.size w wr := bon (bon HAL.out HB3.out) hbl
          by_cases hlt5 : k < p.rules.length
          · obtain ⟨b, off, rfl, hb5, hc⟩ := HCR.out (by omega)
            obtain ⟨vh, vb, vw, hcc, hsl⟩ := hc k hlt5
            obtain ⟨r0, r1, r2, r3, r4, r5⟩ := hcc.below hbw hb5
            have hal3 := bal (Below.refl wr.heap.size wr) (.cells #[.bool (ixR p.rules k).choice, vh, .bool (ixR p.rules k).sum, .int .i64 (ixR p.rules k).bound, vb, vw] 51)
            obtain ⟨a3, c3, rfl, -, hl3, -, hch⟩ := hsl.head.form
            obtain ⟨a4, c4, rfl, -, hl4, -, -⟩ := hsl.body.form
            obtain ⟨a5, c5, rfl, -, hl5, -, -⟩ := hsl.wts.form
            have HRI : Hid (RuleIs (wr.alloc (.cells #[.bool (ixR p.rules k).choice, .slice a3 (ixR p.rules k).head.length c3, .bool (ixR p.rules k).sum, .int .i64 (ixR p.rules k).bound, .slice a4 (ixR p.rules k).body.length c4, .slice a5 (ixR p.rules k).w.length c5] 51)) (.agg #[.bool (ixR p.rules k).choice, .slice a3 (ixR p.rules k).head.length c3, .bool (ixR p.rules k).sum, .int .i64 (ixR p.rules k).bound, .slice a4 (ixR p.rules k).body.length c4, .slice a5 (ixR p.rules k).w.length c5]) (ixR p.rules k)) := Lib.hid ⟨_, _, _, rfl, hsl.below (bon hbw hal3)⟩
            have HRB := Lib.hid (Blk.new wr [.bool (ixR p.rules k).choice, .slice a3 (ixR p.rules k).head.length c3, .bool (ixR p.rules k).sum, .int .i64 (ixR p.rules k).bound, .slice a4 (ixR p.rules k).body.length c4, .slice a5 (ixR p.rules k).w.length c5] 51)
            have HMI : Hid (Ints (wr.alloc (.cells #[.bool (ixR p.rules k).choice, .slice a3 (ixR p.rules k).head.length c3, .bool (ixR p.rules k).sum, .int .i64 (ixR p.rules k).bound, .slice a4 (ixR p.rules k).body.length c4, .slice a5 (ixR p.rules k).w.length c5] 51)) (.slice am m.length cm) m) := Lib.hid (HM.out.below ((HB3.out.trans ((bon hbl hal3).mono HB3.out.size))))
            have HAL3 := Lib.hid hal3
            have HCH := Lib.hid hch
            have HBW := Lib.hid hbw
            have hhl := HHL.out k hlt5
            clear hc hcc hsl hmap hG hbl hbk hbw hch
            cases hbt : bodyT (ixR p.rules k) m with
            | true =>
              have HBT := Lib.hid hbt
              clear hbt hal3
              go_wp2_with (go_at_call 24; (with_reducible refine (rBody_any _ _ (ixR p.rules k) m _ HRI.out HMI.out (by omega) (HBV.out k hlt5)).mono ?_); rintro e w6 ⟨e6, hb6⟩; rw [HBT.out] at e6; subst e6; have kr := (HRB.out.below hb6).cell; have HB6 := Lib.hid (bon HAL3.out hb6); have HS6 := Lib.hid (HSK.out.on HB6.out); have HK6 := Lib.hid (HBK.out.below HB6.out); clear hb6)
              clear kr
              go_loopw [43] (fun i wx => SupRel2 p m w3 k i wx) (fun i _ => (ixR p.rules k).head.length - (intOf i).toNat)
              case atStart => exact ⟨0, Nat.zero_le _, rfl, HS6.out.same (fun y => by simp) (by simp), HK6.out⟩
              case round =>
                obtain ⟨j, hj, rfl, hst, hbk⟩ := hrel
                obtain ⟨G, hmap, hG, hbl⟩ := hst
                have HMAP := Lib.hid hmap
                have HG := Lib.hid hG
                have HBL := Lib.hid hbl
                have HBK2 := Lib.hid hbk
                have kb := hbk.cell 0
                by_cases hlt6 : j < (ixR p.rules k).head.length
                · obtain ⟨b', off', rfl, hb7, hc7⟩ := HCH.out (by omega)
                  have hcx : wr.cell? ⟨b', off' + j, none⟩ = some (.int .i64 (ix (ixR p.rules k).head j)) := (bcell (bon (bon HAL.out HB3.out) hbl) _ _ hb7).trans (hc7 j hlt6)
                  have hlk := mapI_look hmap (ix (ixR p.rules k).head j)
                  have hGk := hG (ix (ixR p.rules k).head j)
                  have hGb : 0 ≤ G (ix (ixR p.rules k).head j) ∧ G (ix (ixR p.rules k).head j) ≤ 1000000000 := by omega
                  clear hc7 hmap hG hbl hGk hbk
                  go_wp2_with (at_mapUpdate; refine wpList_mput _ _ (ix (ixR p.rules k).head j) (.int .i64 (G (ix (ixR p.rules k).head j) + 1)) kvInt 79 3 3 Tryz.underlying79 Tryz.underlying3 rfl _ _ _ rfl rfl rfl rfl HMAP.out ?_; intro w7 hm7 hg7 hs7; have HS7 := Lib.hid (CntSt.put (Q := supP p m k ((ixR p.rules k).head.take (j + 1))) HG.out HBL.out (Nat.le_refl _) hm7 hg7 (supP_push hlt6)); have HB7 := Lib.hid (HBK2.out.same (hg7.block _ HBK2.out.lt (by intro e; have := Option.some.inj e; omega))); clear hm7 hg7 hs7)
                  first
                    | (go_roundw
                       case rel => (exact ⟨j + 1, hlt6, by go_num, HS7.out.same (fun _ => Iff.rfl) (by omega), HB7.out⟩)
                       case measure => (simp [intOf]; omega))
                    | (refine ⟨?_, ?_⟩
                       · (exact ⟨j + 1, hlt6, by go_num, HS7.out.same (fun _ => Iff.rfl) (by omega), HB7.out⟩)
                       · (simp [intOf]; omega))
                · obtain rfl : j = (ixR p.rules k).head.length := by omega
                  have HSN := Lib.hid ((show CntSt w3 w3.heap.size (supP p m k ((ixR p.rules k).head.take (ixR p.rules k).head.length)) (4000 * k + (ixR p.rules k).head.length) wr from ⟨G, hmap, hG, hbl⟩).same (C := 4000 * ((k + 1 : Nat) : Int)) (supP_next HBT.out) (by omega))
                  clear hmap hG hbl hbk
                  go_wp2
                  first
                    | (go_roundw
                       case rel => (exact ⟨k + 1, hlt5, by go_num, HSN.out, HBK2.out⟩)
                       case measure => (simp [intOf]; omega))
                    | (refine ⟨?_, ?_⟩
                       · (exact ⟨k + 1, hlt5, by go_num, HSN.out, HBK2.out⟩)
                       · (simp [intOf]; omega))
            | false =>
              have HBT := Lib.hid hbt
              clear hbt hal3
              go_wp2_with (go_at_call 24; (with_reducible refine (rBody_any _ _ (ixR p.rules k) m _ HRI.out HMI.out (by omega) (HBV.out k hlt5)).mono ?_); rintro e w6 ⟨e6, hb6⟩; rw [HBT.out] at e6; subst e6; have HB6 := Lib.hid (bon HAL3.out hb6); have HS6 := Lib.hid (HSK.out.on HB6.out); have HK6 := Lib.hid (HBK.out.below HB6.out); clear hb6)
              first
                | (go_roundw
                   case rel => (exact ⟨k + 1, hlt5, by go_num, HS6.out.same (supP_skip HBT.out) (by omega), HK6.out⟩)
                   case measure => (simp [intOf]; omega))
                | (refine ⟨?_, ?_⟩
                   · (exact ⟨k + 1, hlt5, by go_num, HS6.out.same (supP_skip HBT.out) (by omega), HK6.out⟩)
                   · (simp [intOf]; omega))
          · obtain rfl : k = p.rules.length := by omega
            have HEND : Hid ((!anyR m.length (fun j => decide (G (ix m j) = 0))) = suppB p m) := Lib.hid (supp_end HMO.out fun y => ⟨(hG y).1, (hG y).2.2⟩)
            have HMAP := Lib.hid hmap
            have HBW := Lib.hid hbw
            have HMW := Lib.hid (HM.out.below (HB3.out.trans (hbl.mono HB3.out.size)))
            clear hmap hG hbl hbk hbw
            go_wp2_with (go_at_call 51; (with_reducible refine (ctn_spc _ m _ HMW.out (fun j => decide (G (ix m j) = 0)) _ (fun w' hb j _ => (supc_any _ G _ _ w' (HBK.out.below hb) (HMAP.out.below hb)).mono fun e w'' ⟨e1, e2⟩ => ⟨e1, e2 ▸ Below.refl _ _⟩)).mono ?_); rintro e w9 ⟨rfl, hb9⟩)
            go_ret
            exact ⟨ret_bool (by rw [HEND.out, HF.out]), bon HBW.out hb9⟩
      | false =>
        have HMO := Lib.hid hmo
        have HF : Hid (suppB p m = false) := Lib.hid (by unfold suppB; rw [hmo]; rfl)
        clear hv hs hV hmo
        go_enter Tryz.func20, Tryz.ntmps20
        go_wp2_with (first | (go_at_call 22; (with_reducible refine (valid_any _ p _ HP.out).mono ?_); rintro e w1 ⟨e1, hb1⟩; subst e1; have kx1 := fun o => (bcell hb1 _ o hlt).trans (kx o); have hz1 := hb1.size; have HB1 := Lib.hid hb1; have hlt1 := Nat.lt_of_lt_of_le hlt hz1; clear hb1) | (go_at_call 47; (with_reducible refine (cset_any _ _ p m _ (HP.out.below HB1.out) (HM.out.below HB1.out)).mono ?_); rintro e w2 ⟨e2, hb2⟩; rw [HS.out] at e2; subst e2; have kx2 := fun o => (bcell hb2 _ o hlt1).trans (kx1 o); have HB2 := Lib.hid (bon HB1.out hb2); have hlt2 := Nat.lt_of_lt_of_le hlt1 hb2.size; clear hb2) | (go_at_call 27; (with_reducible refine (models_any _ _ p m _ (HP.out.below HB2.out) (HM.out.below HB2.out)).mono ?_); rintro e w3 ⟨e3, hb3⟩; rw [HCE.out, HMO.out] at e3; subst e3; have kx3 := fun o => (bcell hb3 _ o hlt2).trans (kx2 o); have HB3 := Lib.hid (bon HB2.out hb3); have hlt3 := Nat.lt_of_lt_of_le hlt2 hb3.size; clear hb3))
        go_ret
        exact ⟨ret_bool (by rw [HF.out]; simp), bon HAL.out HB3.out⟩
    | false =>
      have HS := Lib.hid hs
      clear hv hs
      go_enter Tryz.func20, Tryz.ntmps20
      go_wp2_with (first | (go_at_call 22; (with_reducible refine (valid_any _ p _ HP.out).mono ?_); rintro e w1 ⟨e1, hb1⟩; subst e1; have kx1 := fun o => (bcell hb1 _ o hlt).trans (kx o); have hz1 := hb1.size; have HB1 := Lib.hid hb1; have hlt1 := Nat.lt_of_lt_of_le hlt hz1; clear hb1) | (go_at_call 47; (with_reducible refine (cset_any _ _ p m _ (HP.out.below HB1.out) (HM.out.below HB1.out)).mono ?_); rintro e w2 ⟨e2, hb2⟩; rw [HS.out] at e2; subst e2; have kx2 := fun o => (bcell hb2 _ o hlt1).trans (kx1 o); have HB2 := Lib.hid (bon HB1.out hb2); have hlt2 := Nat.lt_of_lt_of_le hlt1 hb2.size; clear hb2) | (go_at_call 27; (with_reducible refine (models_any _ _ p m _ (HP.out.below HB2.out) (HM.out.below HB2.out)).mono ?_); rintro e w3 ⟨e3, hb3⟩; rw [HCE.out, HMO.out] at e3; subst e3; have kx3 := fun o => (bcell hb3 _ o hlt2).trans (kx2 o); have HB3 := Lib.hid (bon HB2.out hb3); have hlt3 := Nat.lt_of_lt_of_le hlt2 hb3.size; clear hb3))
      go_ret
      exact ⟨ret_bool (by simp), bon HAL.out HB2.out⟩
  · have hve : (validE p != 0) = true := by simp [hv]
    have HF : Hid (decide (validE p = 0) = false) := Lib.hid (decide_eq_false hv)
    clear hv
    go_enter Tryz.func20, Tryz.ntmps20
    go_wp2_with (first | (go_at_call 22; (with_reducible refine (valid_any _ p _ HP.out).mono ?_); rintro e w1 ⟨e1, hb1⟩; subst e1; have kx1 := fun o => (bcell hb1 _ o hlt).trans (kx o); have hz1 := hb1.size; have HB1 := Lib.hid hb1; have hlt1 := Nat.lt_of_lt_of_le hlt hz1; clear hb1) | (go_at_call 47; (with_reducible refine (cset_any _ _ p m _ (HP.out.below HB1.out) (HM.out.below HB1.out)).mono ?_); rintro e w2 ⟨e2, hb2⟩; rw [HS.out] at e2; subst e2; have kx2 := fun o => (bcell hb2 _ o hlt1).trans (kx1 o); have HB2 := Lib.hid (bon HB1.out hb2); have hlt2 := Nat.lt_of_lt_of_le hlt1 hb2.size; clear hb2) | (go_at_call 27; (with_reducible refine (models_any _ _ p m _ (HP.out.below HB2.out) (HM.out.below HB2.out)).mono ?_); rintro e w3 ⟨e3, hb3⟩; rw [HCE.out, HMO.out] at e3; subst e3; have kx3 := fun o => (bcell hb3 _ o hlt2).trans (kx2 o); have HB3 := Lib.hid (bon HB2.out hb3); have hlt3 := Nat.lt_of_lt_of_le hlt2 hb3.size; clear hb3))
    go_ret
    exact ⟨ret_bool (by rw [HF.out]; rfl), bon HAL.out HB1.out⟩

end Go.Proofs.YtoahecjdkgeamaaGreatDoor
