/- My texts Lp4, Lp5, Lp7, Lp8, Lp9, Lp10, Lv4, Lv5, merged. -/
import Derived.Test.YteblddnoegbalaaGreatM11
import Derived.Test.YteblddnoegbalaaGreatM07
import Derived.Test.YteblddnoegbalaaGreatM04
import Derived.Test.YteblddnoegbalaaGreatM03
import Derived.Test.YteblddnoegbalaaGreatM00
import Derived.Test.YteblddnoegbalaaGreatProg
import Derived.WalkKit
import Derived.Lib.Hide
import Derived.Deep.QuietTactic
import Derived.BigQuiet
import Derived.Lib.Bytealg
import Derived.MapKept
import Derived.Maps.OwnSet
import Derived.Maps.OwnOps
import Derived.WalkSpells
import Derived.Lib.SliceRun
import Derived.Test.YteblddnoegbalaaGreatM02
import Derived.Test.YteblddnoegbalaaGreatM01
import Derived.Deep.AppendLies
import Derived.Deep.DeepCutAuto
import Derived.RangeFuncNested
import Derived.RangeFuncBound
import Derived.RangeFuncCalls
import Derived.RangeFuncLeaves
import Derived.OwnWalkIn
import Derived.TacticsInMore
import Derived.LoopNIn
import Derived.LoopIn
import Derived.Stop.RegionWithIn
import Derived.Shelf.Abstract
import Derived.Test.YteblddnoegbalaaGreatM05

namespace Go.Proofs.YteblddnoegbalaaGreat
open Go.RowKit
def InU (w : World) (ab : Nat) (a : List Int) : Prop := ∃ va, Blk w ab [va] 51 ∧ Bytes8 w va a
theorem InU.below {w w' : World} {ab : Nat} {a : List Int} (h : InU w ab a) (hb : Below w.heap.size w w') : InU w' ab a :=
  let ⟨va, h1, h2⟩ := h; ⟨va, h1.below hb, h2.below hb⟩
def oth (u : SU) : List Int := if u.r.choice then [] else keepF (fun x => decide (x ∈ u.S)) u.r.head u.r.head.length
set_option maxHeartbeats 1000000 in
theorem delf_nil (cap : Value) (w : World) :
    Calls Tryz.prog 256 #[.slice none 0 0, .func (.func 257) #[] #[cap]] w fun e w' => e = .returned (.slice none 0 0) ∧ Below w.heap.size w w' := by
  have hint : Ints w (.slice none 0 0) [] := nil_ints w
  have HI := Lib.hid (idx_oth _ [] w hint (fun _ => false) cap (fun w' hb' j hj => absurd hj (Nat.not_lt_zero _)))
  clear hint
  go_enter Tryz.func256, Tryz.ntmps256
  go_upto_region 2 with (go_at_call 150; (with_reducible refine (HI.out).mono ?_); rintro e w1 ⟨r, rfl, hr, hb1⟩; have HR := Lib.hid hr; have HB1 := Lib.hid hb1; clear hr hb1)
  rcases HR.out with ⟨rfl, -⟩ | ⟨i0, hi0, -⟩
  · go_wp2_with fail
    go_ret
    exact ⟨rfl, HB1.out⟩
  · exact absurd hi0 (Nat.not_lt_zero _)
theorem delf_row {base : Nat} {w : World} {v : Value} {l : List Int} (h : OwnI base w v l) (hbase : base ≤ w.heap.size) (q : Int → Bool) (cap : Value) (hq : ∀ w', Below base w w' → ∀ x, Calls Tryz.prog 257 #[.int .i64 x, cap] w' fun e w'' => e = .returned (.bool (q x)) ∧ w' = w'') :
    Calls Tryz.prog 256 #[v, .func (.func 257) #[] #[cap]] w fun e w' => ∃ a n c', e = .returned (.slice a n c') ∧ QRow base w' (.slice a n c') (keepF q l l.length) ∧ Below base w w' := by
  obtain ⟨⟨hrow, h8⟩, hfit⟩ := h
  rcases hrow.2 with ⟨rfl, h0⟩ | ⟨g, c, cur, rfl, hb, hg, hn, hm, hs, hx⟩
  · have : l = [] := List.eq_nil_of_length_eq_zero h0
    subst this
    refine (delf_nil cap w).mono fun e w' ⟨he, hb⟩ => ⟨none, 0, 0, he, QRow.nil _ _, hb.mono hbase⟩
  · refine (delf_oth l g c base cur.toList w (by unfold Blk; simpa using hg) (fun k hk => ?_) hfit ⟨hn, by simp; omega, hm⟩ hb h8 q cap (fun w' hl x => hq w' ((hl.mono hbase (fun i hi _ => hi)).below (fun i hi => by simp only [List.mem_singleton] at hi; omega)) x)).mono fun e w' ⟨a, n, c', he, hr, hl⟩ => ⟨a, n, c', he, hr, (hl.mono hbase (fun i hi _ => hi)).below (fun i hi => by simp only [List.mem_singleton] at hi; omega)⟩
    have h4 : (cur.toList.take (l.length * 1))[k]? = some (.int .i64 (ix l k)) := by rw [hx]; simp [hk]
    rw [List.getElem?_take_of_lt (by omega)] at h4
    exact h4
set_option maxHeartbeats 4000000 in
set_option maxRecDepth 100000 in
theorem others_any (v : Value) (u : SU) (w : World) (h : SupIs w v u) :
    Calls Tryz.prog 243 #[v] w fun e w' => ∃ a n c, e = .returned (.slice a n c) ∧ QRow w.heap.size w' (.slice a n c) (oth u) ∧ Below w.heap.size w w' := by
  obtain ⟨vh, vb, vw, vs, rfl, hsl, hS, hb⟩ := h
  have hal := bal (Below.refl w.heap.size w) (.cells #[.bool u.r.choice, vh, .bool u.r.sum, .int .i64 u.r.bound, vb, vw, .int .i64 u.b, vs] 233)
  obtain ⟨a1, c1, rfl, -, hl1, -, -⟩ := hsl.head.form
  obtain ⟨a2, c2, rfl, -, hl2, -, -⟩ := hsl.body.form
  obtain ⟨a3, c3, rfl, -, hl3, -, -⟩ := hsl.wts.form
  obtain ⟨a4, c4, rfl, -, hl4, -, -⟩ := hS.form
  have HBK := Lib.hid (Blk.new w [.bool u.r.choice, .slice a1 u.r.head.length c1, .bool u.r.sum, .int .i64 u.r.bound, .slice a2 u.r.body.length c2, .slice a3 u.r.w.length c3, .int .i64 u.b, .slice a4 u.S.length c4] 233)
  have HSL := Lib.hid hsl
  have HS := Lib.hid hS
  have HAL := Lib.hid hal
  clear hsl hS hal
  cases hch : u.r.choice with
  | true =>
    have HF : Hid (oth u = []) := Lib.hid (by unfold oth; rw [hch]; rfl)
    rw [hch] at HAL
    clear HBK
    go_enter Tryz.func243, Tryz.ntmps243
    go_wp2
    go_ret
    exact ⟨_, _, _, rfl, by rw [HF.out]; exact QRow.nil _ _, HAL.out⟩
  | false =>
    have HF : Hid (oth u = keepF (fun x => decide (x ∈ u.S)) u.r.head u.r.head.length) := Lib.hid (by unfold oth; rw [hch]; rfl)
    rw [hch] at HAL HBK
    have HH0 := Lib.hid (HSL.out.head.below HAL.out)
    go_enter Tryz.func243, Tryz.ntmps243
    go_upto_region 3 with fail
    have kx := HBK.out.cell
    generalize w.alloc (.cells #[.bool false, .slice a1 u.r.head.length c1, .bool u.r.sum, .int .i64 u.r.bound, .slice a2 u.r.body.length c2, .slice a3 u.r.w.length c3, .int .i64 u.b, .slice a4 u.S.length c4] 233) = W0 at *
    have hz0 : w.heap.size < W0.heap.size := HBK.out.lt
    have HSB : Hid (∀ w', Below W0.heap.size W0 w' → SupB w' w.heap.size u) := Lib.hid (fun w' hb' => ⟨_, _, _, _, by rw [hch]; exact HBK.out.below hb', HSL.out.below (HAL.out.trans (hb'.mono (by omega))), HS.out.below (HAL.out.trans (hb'.mono (by omega))), hb⟩)
    go_wp2_with (first
      | (go_at_call 256; (with_reducible refine (delf_row HOW.out hz1 (fun x => decide (x ∈ u.S)) _ (fun w' hb' x => oth1_any u _ x w' (HSB.out w' (HB1.out.trans hb')))).mono ?_); rintro e w2 ⟨a5, n5, c5, rfl, hq5, hb5⟩; have HQ5 := Lib.hid hq5; have HB5 := Lib.hid hb5; clear hq5 hb5)
      | (go_at_call 88; (with_reducible refine (cloneI_any _ u.r.head W0 HH0.out).mono ?_); rintro e w1 ⟨v1, rfl, ho1, hb1⟩; have HOW := Lib.hid ho1; have HB1 := Lib.hid hb1; have hz1 := hb1.size; have kx1 := fun o => (bcell hb1 _ o HBK.out.lt).trans (HBK.out.cell o); clear ho1 hb1))
    go_ret
    exact ⟨_, _, _, rfl, by rw [HF.out]; exact HQ5.out.mono (by omega), HAL.out.trans ((HB1.out.trans HB5.out).mono (by omega))⟩
def impB (u : SU) : Bool := if u.r.sum then decide (wgt u (fun _ => true) u.r.body.length < u.r.bound) else anyR u.r.body.length (fun j => intB u.S (ix u.r.body j))
theorem imp1_any (w : World) (l : Int) : Calls Tryz.prog 254 #[.int .i64 l] w fun e w' => e = .returned (.bool true) ∧ w = w' := by
  go_enter Tryz.func254, Tryz.ntmps254
  go_wp2
  go_ret
  exact ⟨rfl, rfl⟩
set_option maxHeartbeats 1000000 in
theorem idx_int (v : Value) (l : List Int) (w : World) (h : Ints w v l) (g : Nat → Bool) (fst : Value)
    (hg : ∀ w', Below w.heap.size w w' → ∀ j, j < l.length → Calls Tryz.prog 255 #[fst, .int .i64 (ix l j)] w' fun e w'' => e = .returned (.bool (g j)) ∧ Below w'.heap.size w' w'') :
    Calls Tryz.prog 150 #[v, .func (.func 255) #[fst] #[]] w fun e w' => ∃ r, e = .returned (.int .i64 r) ∧ IxP l.length g r ∧ Below w.heap.size w w' := by
  obtain ⟨a1, c1, rfl, -, hl1, -, hcell⟩ := h.form
  have HG := Lib.hid hg
  clear h hg
  go_enter Tryz.func150, Tryz.ntmps150
  go_wp2
  go_loopw [8] (fun i wx => IxR l.length g w i wx) (fun i _ => l.length - (intOf i).toNat)
  case atStart => exact ⟨0, by omega, rfl, fun j hj => absurd hj (Nat.not_lt_zero _), Below.refl _ _⟩
  case round =>
    obtain ⟨k, hk, rfl, hall, hb⟩ := hrel
    have HA := Lib.hid hall
    clear hall
    by_cases hlt : k < l.length
    · obtain ⟨b, off, rfl, hbl, hc⟩ := hcell (by omega)
      have hk1 := (bcell hb _ _ hbl).trans (hc k hlt)
      clear hc hcell
      cases g1 : g k with
      | true =>
        have HK : Hid (_ = true) := Lib.hid g1
        have HC := Lib.hid (HG.out _ hb k hlt)
        rw [g1] at HC
        clear g1
        go_wp2_with (go_at_call 255; refine (HC.out).mono ?_; rintro e w1 ⟨rfl, hb1⟩)
        go_ret
        exact ⟨_, rfl, .inr ⟨k, hlt, rfl, HK.out, HA.out⟩, bon hb hb1⟩
      | false =>
        have HN := Lib.hid (lt_succ_all HA.out g1)
        have HC := Lib.hid (HG.out _ hb k hlt)
        rw [g1] at HC
        clear g1
        go_wp2_with (go_at_call 255; refine (HC.out).mono ?_; rintro e w1 ⟨rfl, hb1⟩)
        first
          | (go_roundw
             case rel => (exact ⟨k + 1, by omega, by go_num, HN.out, bon hb hb1⟩)
             case measure => (simp [intOf]; omega))
          | (refine ⟨?_, ?_⟩
             · (exact ⟨k + 1, by omega, by go_num, HN.out, bon hb hb1⟩)
             · (simp [intOf]; omega))
    · have HN : Hid (∀ j, j < l.length → g j = false) := Lib.hid (fun j hj => HA.out j (by omega))
      go_wp2
      go_ret
      exact ⟨_, rfl, .inl ⟨rfl, HN.out⟩, hb⟩
set_option maxHeartbeats 1000000 in
theorem ctn_int (v : Value) (l : List Int) (w : World) (h : Ints w v l) (g : Nat → Bool) (fst : Value)
    (hg : ∀ w', Below w.heap.size w w' → ∀ j, j < l.length → Calls Tryz.prog 255 #[fst, .int .i64 (ix l j)] w' fun e w'' => e = .returned (.bool (g j)) ∧ Below w'.heap.size w' w'') :
    Calls Tryz.prog 101 #[v, .func (.func 255) #[fst] #[]] w fun e w' => e = .returned (.bool (anyR l.length g)) ∧ Below w.heap.size w w' := by
  have HI := Lib.hid (idx_int v l w h g fst hg)
  obtain ⟨a1, c1, rfl, -⟩ := h.form
  clear h hg
  go_enter Tryz.func101, Tryz.ntmps101
  go_wp2_with (go_at_call 150; refine (HI.out).mono ?_; rintro e w1 ⟨r, rfl, hr, hb1⟩; have HR := Lib.hid hr; clear hr)
  go_ret
  exact ⟨ret_bool HR.out.any, hb1⟩
set_option maxHeartbeats 4000000 in
set_option maxRecDepth 100000 in
theorem impossible_any (v : Value) (u : SU) (w : World) (h : SupIs w v u) (hok : SUok u) :
    Calls Tryz.prog 239 #[v] w fun e w' => e = .returned (.bool (impB u)) ∧ Below w.heap.size w w' := by
  have h0 := h
  obtain ⟨vh, vb, vw, vs, rfl, hsl, hS, hb⟩ := h
  have hal := bal (Below.refl w.heap.size w) (.cells #[.bool u.r.choice, vh, .bool u.r.sum, .int .i64 u.r.bound, vb, vw, .int .i64 u.b, vs] 233)
  obtain ⟨a1, c1, rfl, -, hl1, -, -⟩ := hsl.head.form
  obtain ⟨a2, c2, rfl, -, hl2, -, -⟩ := hsl.body.form
  obtain ⟨a3, c3, rfl, -, hl3, -, -⟩ := hsl.wts.form
  obtain ⟨a4, c4, rfl, -, hl4, -, -⟩ := hS.form
  have HBK := Lib.hid (Blk.new w [.bool u.r.choice, .slice a1 u.r.head.length c1, .bool u.r.sum, .int .i64 u.r.bound, .slice a2 u.r.body.length c2, .slice a3 u.r.w.length c3, .int .i64 u.b, .slice a4 u.S.length c4] 233)
  have HB0 := Lib.hid (hsl.body.below hal)
  have H0 := Lib.hid (h0.below hal)
  have HAL := Lib.hid hal
  have HOK := Lib.hid hok
  have hbd := hok.bound
  clear hsl hS hal h0 hok
  cases hs : u.r.sum with
  | true =>
    have HF : Hid (impB u = decide (wgt u (fun _ => true) u.r.body.length < u.r.bound)) := Lib.hid (by unfold impB; rw [hs]; rfl)
    have HSM := Lib.hid hs
    have hwl := wgt_le HOK.out HSM.out (fun _ => true) u.r.body.length (Nat.le_refl _)
    have hsm := (HOK.out.wts HSM.out).2.2 u.r.body.length (by have := (HOK.out.wts HSM.out).1; omega)
    rw [hs] at HAL HBK H0 HB0
    clear hs
    go_enter Tryz.func239, Tryz.ntmps239
    go_upto_region 2 with fail
    generalize w.alloc (.cells #[.bool u.r.choice, .slice a1 u.r.head.length c1, .bool true, .int .i64 u.r.bound, .slice a2 u.r.body.length c2, .slice a3 u.r.w.length c3, .int .i64 u.b, .slice a4 u.S.length c4] 233) = W0 at *
    have kx : ∀ e : Ext W0, ∀ o, e.world.cell? ⟨w.heap.size, o, none⟩ = [Value.bool u.r.choice, .slice a1 u.r.head.length c1, .bool true, .int .i64 u.r.bound, .slice a2 u.r.body.length c2, .slice a3 u.r.w.length c3, .int .i64 u.b, .slice a4 u.S.length c4][o]? := fun e o => (bcell e.below _ o HBK.out.lt).trans (HBK.out.cell o)
    have HW : Hid (∀ e : Ext W0, Calls Tryz.prog 246 #[.agg #[.bool u.r.choice, .slice a1 u.r.head.length c1, .bool true, .int .i64 u.r.bound, .slice a2 u.r.body.length c2, .slice a3 u.r.w.length c3, .int .i64 u.b, .slice a4 u.S.length c4], .func (.func 254) #[] #[]] e.world fun e2 w' => e2 = .returned (.int .i64 (wgt u (fun _ => true) u.r.body.length)) ∧ Below e.world.heap.size e.world w') := Lib.hid (fun e => wgt_imp1 _ u _ (H0.out.below e.below) HOK.out HSM.out (fun _ => true) (fun w' _ l _ _ => (imp1_any w' l).mono fun e w'' ⟨e1, e2⟩ => ⟨e1, e2 ▸ Below.refl _ _⟩))
    have hzW : w.heap.size < W0.heap.size := HBK.out.lt
    refine wp_region_ext (by kernel_rfl) (by kernel_rfl) ?_
    repeat (go_big_quiet_step ((go_at_call 246; exact Calls.ext_of (HW.out _))))
    refine wpQuiet_nil ?_
    intro w9 hw'
    obtain ⟨e9, he9⟩ := hw'
    have hb9 := e9.below
    rw [← he9] at hb9
    clear he9 e9
    try dsimp only
    go_wp2
    go_ret
    exact ⟨ret_bool HF.out.symm, HAL.out.trans (hb9.mono (by omega))⟩
  | false =>
    have HF : Hid (impB u = anyR u.r.body.length (fun j => intB u.S (ix u.r.body j))) := Lib.hid (by unfold impB; rw [hs]; rfl)
    rw [hs] at HAL HBK H0 HB0
    clear hs
    go_enter Tryz.func239, Tryz.ntmps239
    go_upto_region 3 with fail
    have kx := HBK.out.cell
    generalize w.alloc (.cells #[.bool u.r.choice, .slice a1 u.r.head.length c1, .bool false, .int .i64 u.r.bound, .slice a2 u.r.body.length c2, .slice a3 u.r.w.length c3, .int .i64 u.b, .slice a4 u.S.length c4] 233) = W0 at *
    have hzW : w.heap.size < W0.heap.size := HBK.out.lt
    go_wp2_with (go_at_call 101; (with_reducible refine (ctn_int _ u.r.body W0 HB0.out (fun j => intB u.S (ix u.r.body j)) _ (fun w' hb' j _ => internal_any _ u _ w' (H0.out.below hb'))).mono ?_); rintro e w2 ⟨rfl, hb2⟩; have HB2 := Lib.hid hb2; clear hb2)
    go_ret
    exact ⟨ret_bool HF.out.symm, HAL.out.trans (HB2.out.mono (by omega))⟩
def ex2 (u : SU) (a : List Int) : Bool := !u.r.sum && anyR u.r.body.length (fun j => offB a (ix u.r.body j))
def ex3 (u : SU) (a : List Int) : Bool := anyR (oth u).length (fun j => offB a (-(ix (oth u) j)))
def ex4 (u : SU) (a : List Int) : Bool := u.r.sum && decide (wgt u (fun l => !offB a l) u.r.body.length < u.r.bound)
theorem oth_mem {u : SU} {j : Nat} (hok : SUok u) (hj : j < (oth u).length) : 1 ≤ ix (oth u) j ∧ ix (oth u) j ≤ 1000000 := by
  have hm := ix_mem hj
  have : ix (oth u) j ∈ u.r.head := by
    generalize ix (oth u) j = x at *
    unfold oth at hm
    split at hm
    · simp at hm
    · unfold keepF at hm
      exact List.mem_of_mem_take (List.mem_filter.1 hm).1
  obtain ⟨k, hk, e⟩ := mem_ix.1 this
  have := hok.head k hk
  omega
attribute [local go_sem] Oper.semAt_some
set_option maxHeartbeats 1000000 in
theorem sup11_any (S : List Int) (b : Nat) (vs : Value) (x : Int) (w : World) (h : Blk w b [vs] 23) (hS : Ints w vs S) :
    Calls Tryz.prog 237 #[.int .i64 x, .pointer (some ⟨b, 0, none⟩)] w fun e w' => e = .returned (.bool (decide (x ∈ S))) ∧ w = w' := by
  obtain ⟨a4, c4, rfl, -, hl4, -, -⟩ := hS.form
  have k0 := h.cell 0
  have HS := Lib.hid hS
  clear h hS
  go_enter Tryz.func237, Tryz.ntmps237
  go_wp2_with (go_at_call 100; (with_reducible refine (contains_any _ _ x _ HS.out).mono ?_); rintro e w1 ⟨rfl, rfl⟩)
  go_ret
  exact ⟨rfl, rfl⟩
set_option maxHeartbeats 1000000 in
theorem idx_sup (v : Value) (l : List Int) (w : World) (h : Ints w v l) (g : Nat → Bool) (cap : Value)
    (hg : ∀ w', Below w.heap.size w w' → ∀ j, j < l.length → Calls Tryz.prog 237 #[.int .i64 (ix l j), cap] w' fun e w'' => e = .returned (.bool (g j)) ∧ Below w'.heap.size w' w'') :
    Calls Tryz.prog 150 #[v, .func (.func 237) #[] #[cap]] w fun e w' => ∃ r, e = .returned (.int .i64 r) ∧ IxP l.length g r ∧ Below w.heap.size w w' := by
  obtain ⟨a1, c1, rfl, -, hl1, -, hcell⟩ := h.form
  have HG := Lib.hid hg
  clear h hg
  go_enter Tryz.func150, Tryz.ntmps150
  go_wp2
  go_loopw [8] (fun i wx => IxR l.length g w i wx) (fun i _ => l.length - (intOf i).toNat)
  case atStart => exact ⟨0, by omega, rfl, fun j hj => absurd hj (Nat.not_lt_zero _), Below.refl _ _⟩
  case round =>
    obtain ⟨k, hk, rfl, hall, hb⟩ := hrel
    have HA := Lib.hid hall
    clear hall
    by_cases hlt : k < l.length
    · obtain ⟨b, off, rfl, hbl, hc⟩ := hcell (by omega)
      have hk1 := (bcell hb _ _ hbl).trans (hc k hlt)
      clear hc hcell
      cases g1 : g k with
      | true =>
        have HK : Hid (_ = true) := Lib.hid g1
        have HC := Lib.hid (HG.out _ hb k hlt)
        rw [g1] at HC
        clear g1
        go_wp2_with (go_at_call 237; refine (HC.out).mono ?_; rintro e w1 ⟨rfl, hb1⟩)
        go_ret
        exact ⟨_, rfl, .inr ⟨k, hlt, rfl, HK.out, HA.out⟩, bon hb hb1⟩
      | false =>
        have HN := Lib.hid (lt_succ_all HA.out g1)
        have HC := Lib.hid (HG.out _ hb k hlt)
        rw [g1] at HC
        clear g1
        go_wp2_with (go_at_call 237; refine (HC.out).mono ?_; rintro e w1 ⟨rfl, hb1⟩)
        first
          | (go_roundw
             case rel => (exact ⟨k + 1, by omega, by go_num, HN.out, bon hb hb1⟩)
             case measure => (simp [intOf]; omega))
          | (refine ⟨?_, ?_⟩
             · (exact ⟨k + 1, by omega, by go_num, HN.out, bon hb hb1⟩)
             · (simp [intOf]; omega))
    · have HN : Hid (∀ j, j < l.length → g j = false) := Lib.hid (fun j hj => HA.out j (by omega))
      go_wp2
      go_ret
      exact ⟨_, rfl, .inl ⟨rfl, HN.out⟩, hb⟩
set_option maxHeartbeats 1000000 in
theorem ctn_sup (v : Value) (l : List Int) (w : World) (h : Ints w v l) (g : Nat → Bool) (cap : Value)
    (hg : ∀ w', Below w.heap.size w w' → ∀ j, j < l.length → Calls Tryz.prog 237 #[.int .i64 (ix l j), cap] w' fun e w'' => e = .returned (.bool (g j)) ∧ Below w'.heap.size w' w'') :
    Calls Tryz.prog 101 #[v, .func (.func 237) #[] #[cap]] w fun e w' => e = .returned (.bool (anyR l.length g)) ∧ Below w.heap.size w w' := by
  have HI := Lib.hid (idx_sup v l w h g cap hg)
  obtain ⟨a1, c1, rfl, -⟩ := h.form
  clear h hg
  go_enter Tryz.func101, Tryz.ntmps101
  go_wp2_with (go_at_call 150; refine (HI.out).mono ?_; rintro e w1 ⟨r, rfl, hr, hb1⟩; have HR := Lib.hid hr; clear hr)
  go_ret
  exact ⟨ret_bool HR.out.any, hb1⟩
def headIn (S : List Int) (r : GR) : Bool := anyR r.head.length (fun j => decide (ix r.head j ∈ S))
def supAt (p : GP) (S : List Int) (k : Nat) : SU := ⟨ixR p.rules k, bodyI p k, S⟩
def supsTo (p : GP) (S : List Int) : Nat → List SU
  | 0 => []
  | k + 1 => if headIn S (ixR p.rules k) then supsTo p S k ++ [supAt p S k] else supsTo p S k
theorem supsTo_len (p : GP) (S : List Int) : ∀ k, (supsTo p S k).length ≤ k
  | 0 => by simp [supsTo]
  | k + 1 => by
    have := supsTo_len p S k
    unfold supsTo
    split
    · simp; omega
    · omega
abbrev SupV (w : World) := { x : Value × SU // SupIs w x.1 x.2 ∧ SUok x.2 }
def sus {w : World} (l : List (SupV w)) : List SU := l.map (·.1.2)
theorem sus_snoc {w : World} (l : List (SupV w)) (x : SupV w) : sus (l ++ [x]) = sus l ++ [x.1.2] := by simp [sus]
theorem sus_len {w : World} (l : List (SupV w)) : (sus l).length = l.length := by simp [sus]
structure SupSt (wi w : World) (p : GP) (S : List Int) (pb sb : Nat) (vn vs vr vm vset : Value) : Prop where
  below : Below wi.heap.size wi w
  pb : Blk w pb [.int .i64 p.n, vn, vs, vr, vm] 33
  sb : Blk w sb [vset] 23
theorem SupSt.on {wi w w' : World} {p : GP} {S : List Int} {pb sb : Nat} {vn vs vr vm vset : Value} (h : SupSt wi w p S pb sb vn vs vr vm vset) (hb : Below w.heap.size w w') : SupSt wi w' p S pb sb vn vs vr vm vset :=
  ⟨h.below.trans (hb.mono h.below.size), h.pb.below hb, h.sb.below hb⟩
theorem SupSt.lim {wi w0 w w' : World} {p : GP} {S : List Int} {pb sb rb : Nat} {vn vs vr vm vset : Value} (h : SupSt wi w p S pb sb vn vs vr vm vset) (hl : Lim w0.heap.size [rb] w w') (hN : wi.heap.size ≤ w0.heap.size) (hrb : wi.heap.size ≤ rb) (hp : pb < w0.heap.size ∧ pb ≠ rb) (hs : sb < w0.heap.size ∧ sb ≠ rb) : SupSt wi w' p S pb sb vn vs vr vm vset :=
  ⟨h.below.trans ((hl.mono hN (fun i hi _ => hi)).below (fun i hi => by simp only [List.mem_singleton] at hi; omega)), h.pb.same (hl.block _ hp.1 (by simpa using hp.2)), h.sb.same (hl.block _ hs.1 (by simpa using hs.2))⟩
theorem grown_of_below {w w' : World} (h : Below w.heap.size w w') : w.grownBy w' none := ⟨h.os, h.tape, h.output, h.size, fun k hk _ => h.block k hk⟩
theorem AbidesFrom.below {β : Type} {B : Nat} {J : β → World → Prop} (h : AbidesFrom B J) {s : β} {w w' : World} (hs : J s w) (hb : Below w.heap.size w w') : J s w' :=
  h s w w' none hs (grown_of_below hb) (fun r e => by cases e)
end Go.Proofs.YteblddnoegbalaaGreat
namespace Go.Proofs.YteblddnoegbalaaGreat
open Go.RowKit
attribute [local go_sem] Oper.semAt_some
theorem yieldEnd {e : Ending} {A B : Prop} (h : (e = .returned (.bool true) ∧ A) ∨ (e = .returned (.bool false) ∧ B)) : ∃ b, e = .returned (.bool b) ∧ (b = true → A) ∧ (b = false → B) := by
  rcases h with ⟨rfl, h⟩ | ⟨rfl, h⟩
  · exact ⟨true, rfl, fun _ => h, fun e => (Bool.noConfusion e)⟩
  · exact ⟨false, rfl, (fun e => Bool.noConfusion e), fun _ => h⟩
def SupSlots (wi : World) (p : GP) (S : List Int) (n0 : Nat) (W0 : World) (rb : Nat) (J : List (SupV wi) → World → Prop) (i : Value) (wr : World) : Prop :=
  ∃ (k : Nat) (pre : List (SupV wi)), k ≤ p.rules.length ∧ i = .int .i64 k ∧ sus pre = supsTo p S k ∧ J pre wr ∧ Lim n0 [rb] W0 wr
set_option maxHeartbeats 4000000 in
set_option maxRecDepth 100000 in
theorem sups_stops (p : GP) (S : List Int) (wi w0 : World) (vn vs vr vm vset : Value) (hP : ProgIs wi (.agg #[.int .i64 p.n, vn, vs, vr, vm]) p) (hS : Ints wi vset S) (rb pb sb : Nat)
    (hst : SupSt wi w0 p S pb sb vn vs vr vm vset) (hrb : wi.heap.size ≤ rb) (hne : pb ≠ rb ∧ sb ≠ rb) (hok : ∀ k, k < p.rules.length → SUok (supAt p S k)) (n : Nat) (hn : 1 ≤ n) :
    SeqStopsK Fence.wide n Tryz.prog 236 #[.pointer (some ⟨pb, 0, none⟩), .pointer (some ⟨sb, 0, none⟩)] (fun x : SupV wi => #[x.1.1]) (Lim w0.heap.size [rb])
      (fun xs => sus xs = supsTo p S p.rules.length) (fun pre => ∃ k, k ≤ p.rules.length ∧ sus pre = supsTo p S k) p.rules.length w0 := by
  intro l J Jx W hW hJ hJx hY h0
  obtain ⟨vn', vs', vr', vm', e, hPS⟩ := hP
  simp only [Value.agg.injEq, Array.mk.injEq, List.cons.injEq, and_true] at e
  obtain ⟨-, rfl, rfl, rfl, rfl⟩ := e
  obtain ⟨a1, c1, rfl, -, hl1, -, hcell⟩ := hPS.rules.form
  have hP : Hid (ProgIs wi (.agg #[.int .i64 p.n, vn, vs, .slice a1 p.rules.length c1, vm]) p) := Lib.hid ⟨_, _, _, _, rfl, hPS⟩
  obtain ⟨a4, c4, rfl, -, hl4, -, -⟩ := hS.form
  have HS := Lib.hid hS
  have HST := Lib.hid hst
  have HOK := Lib.hid hok
  have HY := Lib.hid hY
  have HJ := Lib.hid hJ
  have HJX := Lib.hid hJx
  have H0 := Lib.hid h0
  have HW := Lib.hid hW
  have HCELL := Lib.hid hcell
  have HPS := Lib.hid hPS
  have hpbl := hst.pb.lt
  have hsbl := hst.sb.lt
  have hN := hst.below.size
  have HSW : Hid (SupSt wi W p S pb sb vn vs (.slice a1 p.rules.length c1) vm (.slice a4 S.length c4)) := Lib.hid (hst.on hW)
  have kp := HSW.out.pb.cell
  have hzW := hW.size
  clear hS hst hok hY hJ hJx h0 hW hcell hPS
  refine callsIn_of_wp Tryz.func236 rfl trivial ?_ rfl
  simp only [Tryz.ntmps236, List.size_toArray, List.length_cons, List.length_nil, Nat.reduceAdd, Nat.reduceSub, Array.replicate_succ, Array.replicate_zero, List.push_toArray, List.append_toArray, List.nil_append, List.cons_append]
  gi_wp2
  clear kp
  gi_loopw [9] (fun i wr => SupSlots wi p S w0.heap.size W rb J i wr) (fun i _ => p.rules.length - (intOf i).toNat)
  case atStart => exact ⟨0, [], Nat.zero_le _, rfl, rfl, H0.out, Lim.refl _ _ _⟩
  case round =>
    obtain ⟨k, pre, hk, rfl, hpre, hj, hlim⟩ := hrel
    have HJR := Lib.hid hj
    have HPRE := Lib.hid hpre
    have HLIM := Lib.hid hlim
    have HSR : Hid (SupSt wi wr p S pb sb vn vs (.slice a1 p.rules.length c1) vm (.slice a4 S.length c4)) := Lib.hid (HSW.out.lim hlim (by omega) hrb (by omega) (by omega))
    clear hj hpre hlim
    by_cases hlt : k < p.rules.length
    · obtain ⟨b, off, rfl, hbl, hc⟩ := HCELL.out (by omega)
      obtain ⟨vh, vb, vw, ⟨k0, k1, k2, k3, k4, k5⟩, hsl⟩ := hc k hlt
      have hbw := HSR.out.below
      have hk0 := (bcell hbw _ _ hbl).trans k0
      have hk1 := (bcell hbw _ _ hbl).trans k1
      have hk2 := (bcell hbw _ _ hbl).trans k2
      have hk3 := (bcell hbw _ _ hbl).trans k3
      have hk4 := (bcell hbw _ _ hbl).trans k4
      have hk5 := (bcell hbw _ _ hbl).trans k5
      have HSL := Lib.hid hsl
      obtain ⟨ah, ch, rfl, -, hlh, -, -⟩ := hsl.head.form
      obtain ⟨ab, cb, rfl, -, hlb, -, -⟩ := hsl.body.form
      obtain ⟨aw, cw, rfl, -, hlw, -, -⟩ := hsl.wts.form
      clear hc k0 k1 k2 k3 k4 k5 hsl hbw
      have hal := bal (Below.refl wr.heap.size wr) (.cells #[.bool (ixR p.rules k).choice, .slice ah (ixR p.rules k).head.length ch, .bool (ixR p.rules k).sum, .int .i64 (ixR p.rules k).bound, .slice ab (ixR p.rules k).body.length cb, .slice aw (ixR p.rules k).w.length cw] 66)
      have hbr := Blk.new wr [.bool (ixR p.rules k).choice, .slice ah (ixR p.rules k).head.length ch, .bool (ixR p.rules k).sum, .int .i64 (ixR p.rules k).bound, .slice ab (ixR p.rules k).body.length cb, .slice aw (ixR p.rules k).w.length cw] 66
      have hj1 := (AbidesFrom.below HJ.out HJR.out hal)
      have hs1 := HSR.out.on hal
      have hl1' : Lim w0.heap.size [rb] W (wr.alloc (.cells #[.bool (ixR p.rules k).choice, .slice ah (ixR p.rules k).head.length ch, .bool (ixR p.rules k).sum, .int .i64 (ixR p.rules k).bound, .slice ab (ixR p.rules k).body.length cb, .slice aw (ixR p.rules k).w.length cw] 66)) := HLIM.out.trans (.of_below hal (Nat.le_trans hzW HLIM.out.size))
      gi_wp2_with fail
      generalize wr.alloc (.cells #[.bool (ixR p.rules k).choice, .slice ah (ixR p.rules k).head.length ch, .bool (ixR p.rules k).sum, .int .i64 (ixR p.rules k).bound, .slice ab (ixR p.rules k).body.length cb, .slice aw (ixR p.rules k).w.length cw] 66) = W1 at *
      have HBR := Lib.hid hbr
      have HS1 := Lib.hid hs1
      have HJ1 := Lib.hid hj1
      have HL1 := Lib.hid hl1'
      have hzr := hal.size
      have hzl := HLIM.out.size
      clear hal hbr hs1 hj1 hl1' hk0 hk1 hk2 hk3 hk4 hk5
      have hdr : Below W1.heap.size W1 W1.drew := (Below.refl _ _).drew
      have HDR := Lib.hid hdr
      have HSD := Lib.hid (HS1.out.on hdr)
      have hk1 := HBR.out.cell
      have hp1 := HS1.out.pb.cell
      have hq1 := HS1.out.sb.cell
      have HCA : Hid (∀ W2, Below W1.heap.size W1 W2 → Calls Tryz.prog 101 #[.slice ah (ixR p.rules k).head.length ch, .func (.func 237) #[] #[.pointer (some ⟨sb, 0, none⟩)]] W2 fun e w' => e = .returned (.bool (headIn S (ixR p.rules k))) ∧ Below W2.heap.size W2 w') :=
        Lib.hid (fun W2 h2 => ctn_sup _ (ixR p.rules k).head W2 (HSL.out.head.below (HS1.out.on h2).below) (fun j => decide (ix (ixR p.rules k).head j ∈ S)) _ (fun w' hb' j _ => (sup11_any S sb _ _ w' (((HS1.out.on h2).on hb').sb) (HS.out.below ((HS1.out.on h2).on hb').below)).mono fun e w'' ⟨e1, e2⟩ => ⟨e1, e2 ▸ Below.refl _ _⟩))
      have hki : InI (k : Int) := by unfold InI; omega
      have HLEN : Hid (pre.length < p.rules.length) := Lib.hid (by
        have h1 := supsTo_len p S k
        rw [← HPRE.out, sus_len] at h1
        omega)
      have HBI : Hid (InI (bodyI p k)) := Lib.hid (by have h1 : 1 ≤ bodyI p k ∧ bodyI p k ≤ 1000000 := (HOK.out k hlt).b; unfold InI; omega)
      have HX : Hid (SupIs wi (.agg #[.bool (ixR p.rules k).choice, .slice ah (ixR p.rules k).head.length ch, .bool (ixR p.rules k).sum, .int .i64 (ixR p.rules k).bound, .slice ab (ixR p.rules k).body.length cb, .slice aw (ixR p.rules k).w.length cw, .int .i64 (bodyI p k), .slice a4 S.length c4]) (supAt p S k)) := Lib.hid ⟨_, _, _, _, rfl, HSL.out, HS.out, HBI.out⟩
      cases hh : headIn S (ixR p.rules k) with
      | false =>
        have HST2 : Hid (supsTo p S (k + 1) = supsTo p S k) := Lib.hid (by rw [supsTo, hh]; rfl)
        rw [hh] at HCA
        clear hh hk1 hp1 hq1
        have kx := fun (e : Ext W1) (o : Nat) => (bcell e.below _ o HBR.out.lt).trans (HBR.out.cell o)
        refine wpIn_wide.2 ?_
        refine wp_region_ext (by kernel_rfl) (by kernel_rfl) ?_
        repeat (go_big_quiet_step ((go_at_call 101; exact Calls.ext_of (HCA.out _ (Ext.below _)))))
        refine wpQuiet_nil ?_
        intro w9 hw'
        obtain ⟨e9, he9⟩ := hw'
        have hb9 := e9.below
        rw [← he9] at hb9
        clear he9 e9
        try dsimp only
        have HB9 := Lib.hid hb9
        clear hb9
        gi_wp2
        first
          | (go_roundw
             case rel => (exact ⟨k + 1, pre, by omega, by go_num, by rw [HPRE.out, HST2.out], AbidesFrom.below HJ.out HJ1.out HB9.out, HL1.out.trans (.of_below HB9.out (by omega))⟩)
             case measure => (simp [intOf]; omega))
          | (refine ⟨?_, ?_⟩
             · (exact ⟨k + 1, pre, by omega, by go_num, by rw [HPRE.out, HST2.out], AbidesFrom.below HJ.out HJ1.out HB9.out, HL1.out.trans (.of_below HB9.out (by omega))⟩)
             · (simp [intOf]; omega))
      | true =>
        have HST2 : Hid (supsTo p S (k + 1) = supsTo p S k ++ [supAt p S k]) := Lib.hid (by rw [supsTo, hh]; rfl)
        have HC := Lib.hid (HCA.out _ hdr)
        rw [hh] at HC
        clear hh
        gi_region_with (first
          | (refine ⟨trivial, ?_⟩; gi_at_call 101; refine (callsIn_wide.2 HC.out).mono ?_; rintro e w1 ⟨rfl, hb1⟩; have HSE := Lib.hid (HSD.out.on hb1); have kp1 := HSE.out.pb.cell; have ks1 := HSE.out.sb.cell; have kr1 := (HBR.out.drew.below hb1).cell; have HB1 := Lib.hid hb1; clear hb1)
          | (refine ⟨trivial, ?_⟩; gi_at_call 238; refine (callsIn_wide.2 (body_any _ p _ (hP.out.below HSE.out.below) (k : Int) hki)).mono ?_; rintro e w2 ⟨rfl, hb2⟩; have HSF := Lib.hid (HSE.out.on hb2); have ks2 := HSF.out.sb.cell; have kr2 := ((HBR.out.drew.below HB1.out).below hb2).cell; have HB2 := Lib.hid (HDR.out.trans (bon HB1.out hb2)); have HJ2 := Lib.hid (AbidesFrom.below HJ.out HJ1.out HB2.out); clear hb2; obtain ⟨fn, tmps, assign, body, hy, hR⟩ := HY.out pre ⟨(_, supAt p S k), HX.out, HOK.out k hlt⟩ w2 HJ2.out HLEN.out; dsimp only at hy)
          | (refine hR.mono ?_; rintro e W3 h3; obtain ⟨bb, rfl, hbt, hbf⟩ := yieldEnd h3; have HBT := Lib.hid hbt; have HBF := Lib.hid hbf; clear hbt hbf h3))
        all_goals (cases bb with
          | false =>
            gi_wp2
            refine bodyPost_ret (results_none rfl _ _ _) rfl ?_
            exact ⟨⟨_, rfl⟩, .inr ⟨pre ++ [_], ⟨k + 1, hlt, by rw [sus_snoc, HPRE.out, HST2.out]⟩, HBF.out (by first | exact rfl | exact trivial)⟩⟩
          | true =>
            gi_wp2
            first
              | (go_roundw
                 case rel => (exact ⟨k + 1, pre ++ [_], hlt, by go_num, by rw [sus_snoc, HPRE.out, HST2.out], (HBT.out (by first | exact rfl | exact trivial)).1, (HL1.out.trans (.of_below HB2.out (by omega))).trans (HBT.out (by first | exact rfl | exact trivial)).2⟩)
                 case measure => (simp [intOf]; omega))
              | (refine ⟨?_, ?_⟩
                 · (exact ⟨k + 1, pre ++ [_], hlt, by go_num, by rw [sus_snoc, HPRE.out, HST2.out], (HBT.out (by first | exact rfl | exact trivial)).1, (HL1.out.trans (.of_below HB2.out (by omega))).trans (HBT.out (by first | exact rfl | exact trivial)).2⟩)
                 · (simp [intOf]; omega)))
    · gi_wp2
      go_end0
      obtain rfl : k = p.rules.length := by omega
      exact ⟨⟨_, rfl⟩, .inl ⟨pre, HPRE.out, HJR.out⟩⟩
end Go.Proofs.YteblddnoegbalaaGreat
namespace Go.Proofs.YteblddnoegbalaaGreat
open Go.RowKit Go.Shelf
attribute [local go_sem] Oper.semAt_some
set_option maxHeartbeats 1000000 in
theorem supports_any (n : Int) (vn vs vm : Value) (r4 a4 : Option Addr) (n3 c3 n4 c4 : Nat) (w : World) :
    Calls Tryz.prog 215 #[.agg #[.int .i64 n, vn, vs, (.slice r4 n3 c3), vm], (.slice a4 n4 c4)] w fun e w' => e = .returned (.func (.func 236) #[] #[.pointer (some ⟨w.heap.size, 0, none⟩), .pointer (some ⟨w.heap.size + 1, 0, none⟩)]) ∧
      Below w.heap.size w w' ∧ Blk w' w.heap.size [.int .i64 n, vn, vs, (.slice r4 n3 c3), vm] 33 ∧ Blk w' (w.heap.size + 1) [(.slice a4 n4 c4)] 23 := by
  have h1 := Blk.new w [.int .i64 n, vn, vs, (.slice r4 n3 c3), vm] 33
  have hb : Below w.heap.size w ((w.alloc (.cells #[.int .i64 n, vn, vs, (.slice r4 n3 c3), vm] 33)).alloc (.cells #[(.slice a4 n4 c4)] 23)) := bal (bal (Below.refl _ _) _) _
  have h2 : Blk ((w.alloc (.cells #[.int .i64 n, vn, vs, (.slice r4 n3 c3), vm] 33)).alloc (.cells #[(.slice a4 n4 c4)] 23)) w.heap.size [.int .i64 n, vn, vs, (.slice r4 n3 c3), vm] 33 := h1.alloc _
  have h3 := Blk.new2 w (.cells #[.int .i64 n, vn, vs, (.slice r4 n3 c3), vm] 33) [(.slice a4 n4 c4)] 23
  clear h1
  have H2 := Lib.hid h2
  have H3 := Lib.hid h3
  have HB := Lib.hid hb
  clear h2 h3 hb
  go_enter Tryz.func215, Tryz.ntmps215
  go_wp2
  go_ret
  exact ⟨rfl, HB.out, H2.out, H3.out⟩
theorem blk_own {β : Type} (b : Nat) (c : List Value) (t : TypeId) : Own (fun (_ : β) W => Blk W b c t) := fun s X Y row hs hg hrow => by
  have hne : some b ≠ row := fun e' => by
    obtain ⟨_, ho, hc⟩ := hrow b e'.symm
    rw [show X.heap[b]? = _ from hs] at ho
    cases ho
    cases hc
  exact hs.same (hg.block b hs.lt hne)
theorem keeps_below {B : Nat} {W W' : World} (h : Below W.heap.size W W') : KeepsFrom B W W' := ⟨h.size, fun k _ _ hk _ => (h.block k (Array.getElem?_eq_some_iff.1 hk).1).trans hk⟩
theorem SupV.form {w : World} (x : SupV w) : ∃ vh vb vw vs, x.1.1 = .agg #[.bool x.1.2.r.choice, vh, .bool x.1.2.r.sum, .int .i64 x.1.2.r.bound, vb, vw, .int .i64 x.1.2.b, vs] ∧ (∃ a n c, vh = .slice a n c) ∧ (∃ a n c, vb = .slice a n c) ∧ (∃ a n c, vw = .slice a n c) ∧ ∃ a n c, vs = .slice a n c := by
  obtain ⟨vh, vb, vw, vs, e, h1, h2, h3⟩ := x.2.1
  obtain ⟨⟨_, _, e1, -⟩, -⟩ := h1.head
  obtain ⟨⟨_, _, e2, -⟩, -⟩ := h1.body
  obtain ⟨⟨_, _, e3, -⟩, -⟩ := h1.wts
  obtain ⟨⟨_, _, e4, -⟩, -⟩ := h2
  exact ⟨_, _, _, _, e, ⟨_, _, _, e1⟩, ⟨_, _, _, e2⟩, ⟨_, _, _, e3⟩, ⟨_, _, _, e4⟩⟩
theorem supsTo_sub (p : GP) (S : List Int) {u : SU} : ∀ (n k : Nat), k ≤ n → u ∈ supsTo p S k → u ∈ supsTo p S n
  | 0, k, hk, h => by obtain rfl : k = 0 := by omega
                      exact h
  | n + 1, k, hk, h => by
    by_cases e : k = n + 1
    · subst e; exact h
    · have := supsTo_sub p S n k (by omega) h
      unfold supsTo
      split
      · exact List.mem_append.2 (.inl this)
      · exact this
end Go.Proofs.YteblddnoegbalaaGreat
namespace Go.Proofs.YteblddnoegbalaaGreat
open Go.RowKit
theorem ruleE_at {p : GP} (h : validE p = 0) {i : Nat} (hi : i < p.rules.length) : ruleE (ixR p.rules i) p.n = 0 := by
  unfold validE at h
  split at h
  · omega
  split at h
  · omega
  split at h
  · rename_i h3; exact absurd h h3
  rename_i h3
  exact rulesFrom_zero p.rules.length 0 (Decidable.not_not.1 h3) i (by omega) (by omega)
theorem rule_bound {r : GR} {n : Int} (h : ruleE r n = 0) : 0 ≤ r.bound ∧ r.bound ≤ 1048576 := by
  unfold ruleE at h
  grind
theorem inc_pos {l : List Int} {n : Int} (h : increasingB l n = true) {j : Nat} (hj : j < l.length) : 0 < ix l j ∧ ix l j ≤ n := by
  have h1 := ordered_lit (increasing_ordered h) (ix_mem hj)
  unfold increasingB at h
  simp only [Bool.and_eq_true] at h
  have h2 := allR_get h.2 j hj
  simp only [decide_eq_true_eq] at h2
  omega
theorem inc_ge {l : List Int} {n : Int} (h : increasingB l n = true) : ∀ j : Nat, j < l.length → (j : Int) + 1 ≤ ix l j
  | 0, hj => by have := inc_pos h hj; omega
  | j + 1, hj => by
    have h1 := inc_ge h j (by omega)
    have h2 := ordered_lt (increasing_ordered h) (j + 1) hj j (by omega)
    have h3 := inc_pos h hj
    have h4 := inc_pos h (show j < l.length by omega)
    unfold litKey at h2
    rw [if_pos (by omega), if_pos (by omega)] at h2
    omega
theorem supAt_ok {p : GP} (hv : validE p = 0) (S : List Int) {k : Nat} (hk : k < p.rules.length) : SUok (supAt p S k) where
  lits := fun j hj => by
    have h := validP hv
    have h1 := ordered_lit (h.body k hk) (ix_mem hj)
    have := h.n
    show 1 ≤ (ix (ixR p.rules k).body j).natAbs ∧ (ix (ixR p.rules k).body j).natAbs ≤ 1000000
    omega
  wts := fun hs => by
    have h1 := weights_sum ((validP hv).sum k hk hs)
    exact ⟨by exact_mod_cast h1.1, h1.2.1, h1.2.2⟩
  bound := rule_bound (ruleE_at hv hk)
  head := fun j hj => by
    have h := validP hv
    have h1 := inc_pos (h.head k hk) hj
    have := h.n
    show 1 ≤ ix (ixR p.rules k).head j ∧ ix (ixR p.rules k).head j ≤ 1000000
    omega
  b := by
    have h := validP hv
    have h1 := h.n
    have h2 := h.rules
    show 1 ≤ bodyI p k ∧ bodyI p k ≤ 1000000
    unfold bodyI
    rw [if_neg (by omega)]
    omega
  hlen := by
    have h := validP hv
    show (ixR p.rules k).head.length ≤ 1000000
    rcases Nat.eq_zero_or_pos (ixR p.rules k).head.length with h0 | h0
    · omega
    · have h1 := inc_ge (h.head k hk) ((ixR p.rules k).head.length - 1) (by omega)
      have h2 := inc_pos (h.head k hk) (show (ixR p.rules k).head.length - 1 < (ixR p.rules k).head.length by omega)
      have := h.n
      omega
def inB (L : List Int) (l : Int) : Bool := decide (l ∈ L)
def InV (w : World) (cb : Nat) (L : List Int) : Prop := ∃ vl vk bd, Blk w cb [vl, vk, .int .i64 bd] 25 ∧ Ints w vl L
theorem InV.below {w w' : World} {cb : Nat} {L : List Int} (h : InV w cb L) (hb : Below w.heap.size w w') : InV w' cb L :=
  let ⟨vl, vk, bd, h1, h2⟩ := h; ⟨vl, vk, bd, h1.below hb, h2.below hb⟩
set_option maxHeartbeats 1000000 in
theorem inV_any (l : Int) (ab : Nat) (a : List Int) (w : World) (h : InV w ab a) (_hl : 1 ≤ l.natAbs ∧ l.natAbs ≤ 1000000) :
    Calls Tryz.prog 164 #[.int .i64 l, .pointer (some ⟨ab, 0, none⟩)] w fun e w' => e = .returned (.bool (inB a l)) ∧ w = w' := by
  obtain ⟨vl, vk, bd, h1, h2⟩ := h
  have k0 := h1.cell 0
  have H2 := Lib.hid h2
  obtain ⟨a9, c9, rfl, -⟩ := h2.form
  clear h1 h2
  go_enter Tryz.func164, Tryz.ntmps164
  go_wp2_with (go_at_call 100; (with_reducible refine (contains_any _ a l _ H2.out).mono ?_); rintro e w1 ⟨rfl, rfl⟩)
  go_ret
  exact ⟨rfl, rfl⟩
structure EnvUV (w : World) (sb fb ab : Nat) (u : SU) (a : List Int) : Prop where
  sup : SupB w sb u
  fn : Blk w fb [.func (.func 164) #[] #[.pointer (some ⟨ab, 0, none⟩)]] 105
  asg : InV w ab a
theorem EnvUV.below {w w' : World} {sb fb ab : Nat} {u : SU} {a : List Int} (h : EnvUV w sb fb ab u a) (hb : Below w.heap.size w w') : EnvUV w' sb fb ab u a := ⟨h.sup.below hb, h.fn.below hb, h.asg.below hb⟩
section
variable {w : World} {sb fb ab : Nat} {u : SU} {a : List Int}
set_option maxHeartbeats 1000000 in
theorem neg_inV (h : EnvUV w sb fb ab u a) (x : Int) (hx : 1 ≤ x ∧ x ≤ 1000000) :
    Calls Tryz.prog 244 #[.int .i64 x, .pointer (some ⟨fb, 0, none⟩)] w fun e w' => e = .returned (.bool (inB a (-x))) ∧ w = w' := by
  have kf := h.fn.cell 0
  have HI := Lib.hid (inV_any (-x) ab a w h.asg (by omega))
  clear h
  go_enter Tryz.func244, Tryz.ntmps244
  go_wp2_with (go_at_call 164; (with_reducible refine (HI.out).mono ?_); rintro e w1 ⟨rfl, rfl⟩)
  go_ret
  exact ⟨rfl, rfl⟩
set_option maxHeartbeats 1000000 in
theorem not_inV (h : EnvUV w sb fb ab u a) (x : Int) (hx : 1 ≤ x.natAbs ∧ x.natAbs ≤ 1000000) :
    Calls Tryz.prog 247 #[.int .i64 x, .pointer (some ⟨fb, 0, none⟩)] w fun e w' => e = .returned (.bool (!inB a x)) ∧ w = w' := by
  have kf := h.fn.cell 0
  have HI := Lib.hid (inV_any x ab a w h.asg hx)
  clear h
  go_enter Tryz.func247, Tryz.ntmps247
  go_wp2_with (go_at_call 164; (with_reducible refine (HI.out).mono ?_); rintro e w1 ⟨rfl, rfl⟩)
  go_ret
  exact ⟨rfl, rfl⟩
set_option maxHeartbeats 1000000 in
theorem ex1_anyV (h : EnvUV w sb fb ab u a) (hok : SUok u) :
    Calls Tryz.prog 240 #[.pointer (some ⟨fb, 0, none⟩), .pointer (some ⟨sb, 0, none⟩)] w fun e w' => e = .returned (.bool (inB a u.b)) ∧ w = w' := by
  have kf := h.fn.cell 0
  obtain ⟨vh, vb, vw, vs, h0, -, -, -⟩ := h.sup
  have k6 := h0.cell 6
  have HI := Lib.hid (inV_any u.b ab a w h.asg (by have := hok.b; omega))
  clear h h0 hok
  go_enter Tryz.func240, Tryz.ntmps240
  go_wp2_with (go_at_call 164; (with_reducible refine (HI.out).mono ?_); rintro e w1 ⟨rfl, rfl⟩)
  go_ret
  exact ⟨rfl, rfl⟩
end
set_option maxHeartbeats 1000000 in
theorem idx_inUV (v : Value) (l : List Int) (w : World) (h : Ints w v l) (g : Nat → Bool) (cap : Value)
    (hg : ∀ w', Below w.heap.size w w' → ∀ j, j < l.length → Calls Tryz.prog 164 #[.int .i64 (ix l j), cap] w' fun e w'' => e = .returned (.bool (g j)) ∧ Below w'.heap.size w' w'') :
    Calls Tryz.prog 150 #[v, .func (.func 164) #[] #[cap]] w fun e w' => ∃ r, e = .returned (.int .i64 r) ∧ IxP l.length g r ∧ Below w.heap.size w w' := by
  obtain ⟨a1, c1, rfl, -, hl1, -, hcell⟩ := h.form
  have HG := Lib.hid hg
  clear h hg
  go_enter Tryz.func150, Tryz.ntmps150
  go_wp2
  go_loopw [8] (fun i wx => IxR l.length g w i wx) (fun i _ => l.length - (intOf i).toNat)
  case atStart => exact ⟨0, by omega, rfl, fun j hj => absurd hj (Nat.not_lt_zero _), Below.refl _ _⟩
  case round =>
    obtain ⟨k, hk, rfl, hall, hb⟩ := hrel
    have HA := Lib.hid hall
    clear hall
    by_cases hlt : k < l.length
    · obtain ⟨b, off, rfl, hbl, hc⟩ := hcell (by omega)
      have hk1 := (bcell hb _ _ hbl).trans (hc k hlt)
      clear hc hcell
      cases g1 : g k with
      | true =>
        have HK : Hid (_ = true) := Lib.hid g1
        have HC := Lib.hid (HG.out _ hb k hlt)
        rw [g1] at HC
        clear g1
        go_wp2_with (go_at_call 164; refine (HC.out).mono ?_; rintro e w1 ⟨rfl, hb1⟩)
        go_ret
        exact ⟨_, rfl, .inr ⟨k, hlt, rfl, HK.out, HA.out⟩, bon hb hb1⟩
      | false =>
        have HN := Lib.hid (lt_succ_all HA.out g1)
        have HC := Lib.hid (HG.out _ hb k hlt)
        rw [g1] at HC
        clear g1
        go_wp2_with (go_at_call 164; refine (HC.out).mono ?_; rintro e w1 ⟨rfl, hb1⟩)
        first
          | (go_roundw
             case rel => (exact ⟨k + 1, by omega, by go_num, HN.out, bon hb hb1⟩)
             case measure => (simp [intOf]; omega))
          | (refine ⟨?_, ?_⟩
             · (exact ⟨k + 1, by omega, by go_num, HN.out, bon hb hb1⟩)
             · (simp [intOf]; omega))
    · have HN : Hid (∀ j, j < l.length → g j = false) := Lib.hid (fun j hj => HA.out j (by omega))
      go_wp2
      go_ret
      exact ⟨_, rfl, .inl ⟨rfl, HN.out⟩, hb⟩
set_option maxHeartbeats 1000000 in
theorem ctn_inUV (v : Value) (l : List Int) (w : World) (h : Ints w v l) (g : Nat → Bool) (cap : Value)
    (hg : ∀ w', Below w.heap.size w w' → ∀ j, j < l.length → Calls Tryz.prog 164 #[.int .i64 (ix l j), cap] w' fun e w'' => e = .returned (.bool (g j)) ∧ Below w'.heap.size w' w'') :
    Calls Tryz.prog 101 #[v, .func (.func 164) #[] #[cap]] w fun e w' => e = .returned (.bool (anyR l.length g)) ∧ Below w.heap.size w w' := by
  have HI := Lib.hid (idx_inUV v l w h g cap hg)
  obtain ⟨a1, c1, rfl, -⟩ := h.form
  clear h hg
  go_enter Tryz.func101, Tryz.ntmps101
  go_wp2_with (go_at_call 150; refine (HI.out).mono ?_; rintro e w1 ⟨r, rfl, hr, hb1⟩; have HR := Lib.hid hr; clear hr)
  go_ret
  exact ⟨ret_bool HR.out.any, hb1⟩
set_option maxHeartbeats 1000000 in
theorem idx_negV (v : Value) (l : List Int) (w : World) (h : Ints w v l) (g : Nat → Bool) (cap : Value)
    (hg : ∀ w', Below w.heap.size w w' → ∀ j, j < l.length → Calls Tryz.prog 244 #[.int .i64 (ix l j), cap] w' fun e w'' => e = .returned (.bool (g j)) ∧ Below w'.heap.size w' w'') :
    Calls Tryz.prog 150 #[v, .func (.func 244) #[] #[cap]] w fun e w' => ∃ r, e = .returned (.int .i64 r) ∧ IxP l.length g r ∧ Below w.heap.size w w' := by
  obtain ⟨a1, c1, rfl, -, hl1, -, hcell⟩ := h.form
  have HG := Lib.hid hg
  clear h hg
  go_enter Tryz.func150, Tryz.ntmps150
  go_wp2
  go_loopw [8] (fun i wx => IxR l.length g w i wx) (fun i _ => l.length - (intOf i).toNat)
  case atStart => exact ⟨0, by omega, rfl, fun j hj => absurd hj (Nat.not_lt_zero _), Below.refl _ _⟩
  case round =>
    obtain ⟨k, hk, rfl, hall, hb⟩ := hrel
    have HA := Lib.hid hall
    clear hall
    by_cases hlt : k < l.length
    · obtain ⟨b, off, rfl, hbl, hc⟩ := hcell (by omega)
      have hk1 := (bcell hb _ _ hbl).trans (hc k hlt)
      clear hc hcell
      cases g1 : g k with
      | true =>
        have HK : Hid (_ = true) := Lib.hid g1
        have HC := Lib.hid (HG.out _ hb k hlt)
        rw [g1] at HC
        clear g1
        go_wp2_with (go_at_call 244; refine (HC.out).mono ?_; rintro e w1 ⟨rfl, hb1⟩)
        go_ret
        exact ⟨_, rfl, .inr ⟨k, hlt, rfl, HK.out, HA.out⟩, bon hb hb1⟩
      | false =>
        have HN := Lib.hid (lt_succ_all HA.out g1)
        have HC := Lib.hid (HG.out _ hb k hlt)
        rw [g1] at HC
        clear g1
        go_wp2_with (go_at_call 244; refine (HC.out).mono ?_; rintro e w1 ⟨rfl, hb1⟩)
        first
          | (go_roundw
             case rel => (exact ⟨k + 1, by omega, by go_num, HN.out, bon hb hb1⟩)
             case measure => (simp [intOf]; omega))
          | (refine ⟨?_, ?_⟩
             · (exact ⟨k + 1, by omega, by go_num, HN.out, bon hb hb1⟩)
             · (simp [intOf]; omega))
    · have HN : Hid (∀ j, j < l.length → g j = false) := Lib.hid (fun j hj => HA.out j (by omega))
      go_wp2
      go_ret
      exact ⟨_, rfl, .inl ⟨rfl, HN.out⟩, hb⟩
set_option maxHeartbeats 1000000 in
theorem ctn_negV (v : Value) (l : List Int) (w : World) (h : Ints w v l) (g : Nat → Bool) (cap : Value)
    (hg : ∀ w', Below w.heap.size w w' → ∀ j, j < l.length → Calls Tryz.prog 244 #[.int .i64 (ix l j), cap] w' fun e w'' => e = .returned (.bool (g j)) ∧ Below w'.heap.size w' w'') :
    Calls Tryz.prog 101 #[v, .func (.func 244) #[] #[cap]] w fun e w' => e = .returned (.bool (anyR l.length g)) ∧ Below w.heap.size w w' := by
  have HI := Lib.hid (idx_negV v l w h g cap hg)
  obtain ⟨a1, c1, rfl, -⟩ := h.form
  clear h hg
  go_enter Tryz.func101, Tryz.ntmps101
  go_wp2_with (go_at_call 150; refine (HI.out).mono ?_; rintro e w1 ⟨r, rfl, hr, hb1⟩; have HR := Lib.hid hr; clear hr)
  go_ret
  exact ⟨ret_bool HR.out.any, hb1⟩
set_option maxHeartbeats 4000000 in
set_option maxRecDepth 100000 in
theorem wgt_notV (v : Value) (u : SU) (w : World) (h : SupIs w v u) (hok : SUok u) (hs : u.r.sum = true) (g : Int → Bool) (cap : Value)
    (hg : ∀ w', Below w.heap.size w w' → ∀ l : Int, 1 ≤ l.natAbs → l.natAbs ≤ 1000000 → Calls Tryz.prog 247 #[.int .i64 l, cap] w' fun e w'' => e = .returned (.bool (g l)) ∧ Below w'.heap.size w' w'') :
    Calls Tryz.prog 246 #[v, .func (.func 247) #[] #[cap]] w fun e w' => e = .returned (.int .i64 (wgt u g u.r.body.length)) ∧ Below w.heap.size w w' := by
  have h0 := h
  obtain ⟨vh, vb, vw, vs, rfl, hsl, hS, hb⟩ := h
  have hal := bal (Below.refl w.heap.size w) (.cells #[.bool u.r.choice, vh, .bool u.r.sum, .int .i64 u.r.bound, vb, vw, .int .i64 u.b, vs] 233)
  obtain ⟨a1, c1, rfl, -, hl1, -, -⟩ := hsl.head.form
  obtain ⟨a2, c2, rfl, -, hl2, -, hcb⟩ := hsl.body.form
  obtain ⟨a3, c3, rfl, -, hl3, -, hcw⟩ := hsl.wts.form
  obtain ⟨a4, c4, rfl, -, hl4, -, -⟩ := hS.form
  have H0 := Lib.hid h0
  have HG := Lib.hid hg
  have HBK := Lib.hid (Blk.new w [.bool u.r.choice, .slice a1 u.r.head.length c1, .bool u.r.sum, .int .i64 u.r.bound, .slice a2 u.r.body.length c2, .slice a3 u.r.w.length c3, .int .i64 u.b, .slice a4 u.S.length c4] 233)
  have HCB := Lib.hid hcb
  have HCW := Lib.hid hcw
  have HOK := Lib.hid hok
  have HWS := Lib.hid (hok.wts hs)
  have hwl : u.r.w.length ≤ u.r.body.length ∧ u.r.body.length ≤ u.r.w.length := by have := (hok.wts hs).1; omega
  have HSM := Lib.hid hs
  clear h0 hsl hS hb hg hcb hcw hok hs
  go_enter Tryz.func246, Tryz.ntmps246
  go_upto_region 1 with fail
  have HAL := Lib.hid hal
  clear hal
  generalize w.alloc (.cells #[.bool u.r.choice, .slice a1 u.r.head.length c1, .bool u.r.sum, .int .i64 u.r.bound, .slice a2 u.r.body.length c2, .slice a3 u.r.w.length c3, .int .i64 u.b, .slice a4 u.S.length c4] 233) = W0 at *
  have kx := HBK.out.cell
  have hzW : w.heap.size < W0.heap.size := HBK.out.lt
  go_wp2_with fail
  clear kx
  go_loopw [5, 12] (fun s i wx => WgRel u g W0 s i wx) (fun _ i _ => u.r.body.length - (intOf i).toNat)
  case atStart => exact ⟨0, Nat.zero_le _, rfl, rfl, Below.refl _ _⟩
  case round =>
    obtain ⟨k, hk, rfl, rfl, hbx⟩ := hrel
    have HBX := Lib.hid hbx
    have hbw : Below w.heap.size w wr := HAL.out.trans (hbx.mono (by omega))
    have HBW := Lib.hid hbw
    have kx := fun o => (bcell hbx _ o HBK.out.lt).trans (HBK.out.cell o)
    have hz := hbx.size
    have hle := wgt_le HOK.out HSM.out g k hk
    have hsm := HWS.out.2.2 k (by omega)
    clear hbx
    by_cases hlt : k < u.r.body.length
    · obtain ⟨bb, offb, rfl, hbb, hcb⟩ := HCB.out (by omega)
      have kb := (bcell hbw _ _ hbb).trans (hcb k hlt)
      obtain ⟨bw, offw, rfl, hbw2, hcw⟩ := HCW.out (by omega)
      have hcw0 := hcw k (by omega)
      have kw := (bcell hbw _ _ hbw2).trans hcw0
      have hle2 := wgt_le HOK.out HSM.out g (k + 1) hlt
      have hsm2 := HWS.out.2.2 (k + 1) (by omega)
      have hl := HOK.out.lits k hlt
      have HIN := Lib.hid (internal_any _ u (ix u.r.body k) wr (H0.out.below hbw))
      have HST : Hid (wgt u g (k + 1) = wgt u g k + if !intB u.S (ix u.r.body k) && g (ix u.r.body k) then ix u.r.w k else 0) := Lib.hid rfl
      have hw1 := HWS.out.2.1 k (by omega)
      clear hcb hcw hbw
      cases hi : intB u.S (ix u.r.body k) with
      | true =>
        rw [hi] at HIN HST
        have HS2 : Hid (wgt u g (k + 1) = wgt u g k) := Lib.hid (by rw [HST.out]; simp)
        go_wp2_with (go_at_call 255; (with_reducible refine (HIN.out).mono ?_); rintro e w1 ⟨rfl, hb1⟩; have HB1 := Lib.hid (bon HBX.out hb1); clear hb1)
        first
          | (go_roundw
             case rel => (exact ⟨k + 1, by omega, by go_num, by rw [HS2.out], HB1.out⟩)
             case measure => (simp [intOf]; omega))
          | (refine ⟨?_, ?_⟩
             · (exact ⟨k + 1, by omega, by go_num, by rw [HS2.out], HB1.out⟩)
             · (simp [intOf]; omega))
      | false =>
        rw [hi] at HIN HST
        cases hgl : g (ix u.r.body k) with
        | false =>
          rw [hgl] at HST
          have HS2 : Hid (wgt u g (k + 1) = wgt u g k) := Lib.hid (by rw [HST.out]; simp)
          go_wp2_with (first | (go_at_call 247; (with_reducible refine (HG.out _ (bon HBW.out hb1) _ hl.1 hl.2).mono ?_); rintro e w2 ⟨e2, hb2⟩; rw [hgl] at e2; subst e2; have HB2 := Lib.hid (bon (bon HBX.out hb1) hb2)) | (go_at_call 255; (with_reducible refine (HIN.out).mono ?_); rintro e w1 ⟨rfl, hb1⟩; have kx1 := fun o => (bcell (bon HBX.out hb1) _ o HBK.out.lt).trans (HBK.out.cell o); have hz1 := hb1.size))
          first
            | (go_roundw
               case rel => (exact ⟨k + 1, by omega, by go_num, by rw [HS2.out], HB2.out⟩)
               case measure => (simp [intOf]; omega))
            | (refine ⟨?_, ?_⟩
               · (exact ⟨k + 1, by omega, by go_num, by rw [HS2.out], HB2.out⟩)
               · (simp [intOf]; omega))
        | true =>
          rw [hgl] at HST
          have HS2 : Hid (wgt u g (k + 1) = wgt u g k + ix u.r.w k) := Lib.hid (by rw [HST.out]; simp)
          have hs2 : wgt u g k + ix u.r.w k ≤ 1048576 := by rw [HS2.out] at hle2; omega
          go_wp2_with (first | (go_at_call 247; (with_reducible refine (HG.out _ (bon HBW.out hb1) _ hl.1 hl.2).mono ?_); rintro e w2 ⟨e2, hb2⟩; rw [hgl] at e2; subst e2; have HB2 := Lib.hid (bon (bon HBX.out hb1) hb2); have kw2 := (bcell (bon (bon HBW.out hb1) hb2) _ _ hbw2).trans hcw0; have kx2 := fun o => (bcell (bon (bon HBX.out hb1) hb2) _ o HBK.out.lt).trans (HBK.out.cell o); have hz2 := hb2.size) | (go_at_call 255; (with_reducible refine (HIN.out).mono ?_); rintro e w1 ⟨rfl, hb1⟩; have kx1 := fun o => (bcell (bon HBX.out hb1) _ o HBK.out.lt).trans (HBK.out.cell o); have hz1 := hb1.size))
          first
            | (go_roundw
               case rel => (exact ⟨k + 1, by omega, by go_num, by rw [HS2.out], HB2.out⟩)
               case measure => (simp [intOf]; omega))
            | (refine ⟨?_, ?_⟩
               · (exact ⟨k + 1, by omega, by go_num, by rw [HS2.out], HB2.out⟩)
               · (simp [intOf]; omega))
    · obtain rfl : k = u.r.body.length := by omega
      go_wp2_with fail
      go_ret
      exact ⟨rfl, HAL.out.trans (HBX.out.mono (by omega))⟩
def ex2V (u : SU) (a : List Int) : Bool := !u.r.sum && anyR u.r.body.length (fun j => inB a (ix u.r.body j))
def ex3V (u : SU) (a : List Int) : Bool := anyR (oth u).length (fun j => inB a (-(ix (oth u) j)))
def ex4V (u : SU) (a : List Int) : Bool := u.r.sum && decide (wgt u (fun l => !inB a l) u.r.body.length < u.r.bound)
section
variable {w : World} {sb fb ab : Nat} {u : SU} {a : List Int}
set_option maxHeartbeats 1000000 in
theorem ex2_anyV (h : EnvUV w sb fb ab u a) (hok : SUok u) :
    Calls Tryz.prog 241 #[.pointer (some ⟨sb, 0, none⟩), .pointer (some ⟨fb, 0, none⟩)] w fun e w' => e = .returned (.bool (ex2V u a)) ∧ Below w.heap.size w w' := by
  have kf := h.fn.cell 0
  obtain ⟨vh, vb, vw, vs, h0, hsl, -, -⟩ := h.sup
  obtain ⟨a2, c2, rfl, -, hl2, -, -⟩ := hsl.body.form
  have ks := h0.cell
  have HA := Lib.hid h.asg
  have HB := Lib.hid hsl.body
  have HOK := Lib.hid hok
  clear h h0 hsl hok
  cases hs : u.r.sum with
  | true =>
    have HF : Hid (ex2V u a = false) := Lib.hid (by unfold ex2V; rw [hs]; rfl)
    go_enter Tryz.func241, Tryz.ntmps241
    go_wp2
    go_ret
    exact ⟨ret_bool HF.out.symm, Below.refl _ _⟩
  | false =>
    have HF : Hid (ex2V u a = anyR u.r.body.length (fun j => inB a (ix u.r.body j))) := Lib.hid (by unfold ex2V; rw [hs]; rfl)
    go_enter Tryz.func241, Tryz.ntmps241
    go_wp2_with (go_at_call 101; (with_reducible refine (ctn_inUV _ u.r.body w HB.out (fun j => inB a (ix u.r.body j)) _ (fun w' hb' j hj => (inV_any _ ab a w' (HA.out.below hb') (HOK.out.lits j hj)).mono fun e w'' ⟨e1, e2⟩ => ⟨e1, e2 ▸ Below.refl _ _⟩)).mono ?_); rintro e w2 ⟨rfl, hb2⟩; have HB2 := Lib.hid hb2; clear hb2)
    go_ret
    exact ⟨ret_bool HF.out.symm, HB2.out⟩
set_option maxHeartbeats 1000000 in
theorem ex3_anyV (h : EnvUV w sb fb ab u a) (hok : SUok u) :
    Calls Tryz.prog 242 #[.pointer (some ⟨sb, 0, none⟩), .pointer (some ⟨fb, 0, none⟩)] w fun e w' => e = .returned (.bool (ex3V u a)) ∧ Below w.heap.size w w' := by
  have HE := Lib.hid h
  obtain ⟨vh, vb, vw, vs, h0, hsl, hS, hb⟩ := h.sup
  have ks := h0.cell
  have HSU : Hid (SupIs w (.agg #[.bool u.r.choice, vh, .bool u.r.sum, .int .i64 u.r.bound, vb, vw, .int .i64 u.b, vs]) u) := Lib.hid ⟨_, _, _, _, rfl, hsl, hS, hb⟩
  have HOK := Lib.hid hok
  have hol : (oth u).length * 8 ≤ 140737488351232 := by
    have h1 := hok.hlen
    have h2 := keepF_le (fun x => decide (x ∈ u.S)) u.r.head u.r.head.length
    unfold oth
    split
    · simp
    · omega
  clear h h0 hsl hS hok
  go_enter Tryz.func242, Tryz.ntmps242
  go_wp2_with (first
    | (go_at_call 101; (with_reducible refine (ctn_negV _ (oth u) _ HO.out (fun j => inB a (-(ix (oth u) j))) _ (fun w' hb' j hj => (neg_inV (HE.out.below (bon HB1.out hb')) _ (oth_mem HOK.out hj)).mono fun e w'' ⟨e1, e2⟩ => ⟨e1, e2 ▸ Below.refl _ _⟩)).mono ?_); rintro e w2 ⟨rfl, hb2⟩; have HB2 := Lib.hid (bon HB1.out hb2); clear hb2)
    | (go_at_call 243; (with_reducible refine (others_any _ u _ HSU.out).mono ?_); rintro e w1 ⟨a5, n5, c5, rfl, hq1, hb1⟩; have HO := Lib.hid (hq1.ints hol); have HB1 := Lib.hid hb1; have kf1 := (bcell hb1 _ 0 HE.out.fn.lt).trans (HE.out.fn.cell 0); clear hq1 hb1))
  go_ret
  exact ⟨rfl, HB2.out⟩
end
end Go.Proofs.YteblddnoegbalaaGreat
