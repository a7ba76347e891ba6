/- My texts Lp4, Lp5, Lp6, Lp7, merged. -/
import Derived.Test.YthclpkhaenaknaaGreatDoorM05
import Derived.RangeFuncNested
import Derived.RangeFuncBound
import Derived.RangeFuncCalls
import Derived.RangeFuncLeaves
import Derived.WalkKit
import Derived.OwnWalkIn
import Derived.TacticsInMore
import Derived.LoopNIn
import Derived.LoopIn
import Derived.Stop.RegionWithIn

/- loops: the closure of Unfounded; others, impossible. -/
namespace Go.Proofs.YthclpkhaenaknaaGreatDoor
open Go.RowKit



/-- The assignment that Unfounded's closure has captured. -/
def InU (w : World) (ab : Nat) (a : List Int) : Prop := ∃ va, Blk w ab [va] 28 ∧ Bytes8 w va a

theorem InU.below {w w' : World} {ab : Nat} {a : List Int} (h : InU w ab a) (hb : Below w.heap.size w w') : InU w' ab a :=
  let ⟨va, h1, h2⟩ := h; ⟨va, h1.below hb, h2.below hb⟩

set_option maxHeartbeats 1000000 in
theorem inU_any (l : Int) (ab : Nat) (a : List Int) (w : World) (h : InU w ab a) (hl : 1 ≤ l.natAbs ∧ l.natAbs ≤ 1000000) :
    Calls Tryz.prog 38 #[.int .i64 l, .pointer (some ⟨ab, 0, none⟩)] w fun e w' => e = .returned (.bool (offB a l)) ∧ w = w' := by
  obtain ⟨va, h1, h2⟩ := h
  have k0 := h1.cell 0
  obtain ⟨a9, n9, c9, rfl⟩ : ∃ a9 n9 c9, va = .slice a9 n9 c9 := by obtain ⟨⟨x, y, e, -⟩, -⟩ := h2; exact ⟨_, _, _, e⟩
  have HA := Lib.hid h2
  have hl0 : l ≠ 0 := by omega
  have hl1 : -4611686018427387904 ≤ l ∧ l ≤ 4611686018427387904 := by omega
  have HL0 := Lib.hid hl0
  have HL1 := Lib.hid hl1
  clear h1 h2 hl0 hl1
  cases ho : offB a l with
  | true =>
    have HO := Lib.hid ho
    clear ho
    go_enter Tryz.func38, Tryz.ntmps38
    go_wp2_with (go_at_call 39; (with_reducible refine (lvalue_off _ a _ HA.out l HL0.out HL1.out HO.out).mono ?_); rintro e w1 ⟨rfl, rfl⟩)
    go_ret
    exact ⟨rfl, rfl⟩
  | false =>
    have HO := Lib.hid ho
    clear ho
    go_enter Tryz.func38, Tryz.ntmps38
    go_wp2_with (go_at_call 39; (with_reducible refine (lvalue_on _ a _ HA.out l HL0.out HL1.out HO.out).mono ?_); rintro e w1 ⟨r, hr, rfl, rfl⟩)
    go_ret
    exact ⟨ret_bool (decide_eq_false (by omega)), rfl⟩

/-- The other heads. -/
def oth (u : SU) : List Int := if u.r.choice then [] else keepF (fun x => decide (x ∈ u.S)) u.r.head u.r.head.length

set_option maxHeartbeats 1000000 in
theorem delf_nil (cap : Value) (w : World) :
    Calls Tryz.prog 75 #[.slice none 0 0, .func (.func 106) #[] #[cap]] w fun e w' => e = .returned (.slice none 0 0) ∧ Below w.heap.size w w' := by
  have hint : Ints w (.slice none 0 0) [] := nil_ints w
  have HI := Lib.hid (idx_oth _ [] w hint (fun _ => false) cap (fun w' hb' j hj => absurd hj (Nat.not_lt_zero _)))
  clear hint
  go_enter Tryz.func75, Tryz.ntmps75
  go_upto_region 2 with (go_at_call 72; (with_reducible refine (HI.out).mono ?_); rintro e w1 ⟨r, rfl, hr, hb1⟩; have HR := Lib.hid hr; have HB1 := Lib.hid hb1; clear hr hb1)
  rcases HR.out with ⟨rfl, -⟩ | ⟨i0, hi0, -⟩
  · go_wp2_with fail
    go_ret
    exact ⟨rfl, HB1.out⟩
  · exact absurd hi0 (Nat.not_lt_zero _)


theorem delf_row {base : Nat} {w : World} {v : Value} {l : List Int} (h : OwnI base w v l) (hbase : base ≤ w.heap.size) (q : Int → Bool) (cap : Value) (hq : ∀ w', Below base w w' → ∀ x, Calls Tryz.prog 106 #[.int .i64 x, cap] w' fun e w'' => e = .returned (.bool (q x)) ∧ w' = w'') :
    Calls Tryz.prog 75 #[v, .func (.func 106) #[] #[cap]] w fun e w' => ∃ a n c', e = .returned (.slice a n c') ∧ QRow base w' (.slice a n c') (keepF q l l.length) ∧ Below base w w' := by
  obtain ⟨⟨hrow, h8⟩, hfit⟩ := h
  rcases hrow.2 with ⟨rfl, h0⟩ | ⟨g, c, cur, rfl, hb, hg, hn, hm, hs, hx⟩
  · have : l = [] := List.eq_nil_of_length_eq_zero h0
    subst this
    refine (delf_nil cap w).mono fun e w' ⟨he, hb⟩ => ⟨none, 0, 0, he, QRow.nil _ _, hb.mono hbase⟩
  · refine (delf_oth l g c base cur.toList w (by unfold Blk; simpa using hg) (fun k hk => ?_) hfit ⟨hn, by simp; omega, hm⟩ hb h8 q cap (fun w' hl x => hq w' ((hl.mono hbase (fun i hi _ => hi)).below (fun i hi => by simp only [List.mem_singleton] at hi; omega)) x)).mono fun e w' ⟨a, n, c', he, hr, hl⟩ => ⟨a, n, c', he, hr, (hl.mono hbase (fun i hi _ => hi)).below (fun i hi => by simp only [List.mem_singleton] at hi; omega)⟩
    have h4 : (cur.toList.take (l.length * 1))[k]? = some (.int .i64 (ix l k)) := by rw [hx]; simp [hk]
    rw [List.getElem?_take_of_lt (by omega)] at h4
    exact h4

set_option maxHeartbeats 4000000 in
set_option maxRecDepth 100000 in
theorem others_any (v : Value) (u : SU) (w : World) (h : SupIs w v u) :
    Calls Tryz.prog 73 #[v] w fun e w' => ∃ a n c, e = .returned (.slice a n c) ∧ QRow w.heap.size w' (.slice a n c) (oth u) ∧ Below w.heap.size w w' := by
  obtain ⟨vh, vb, vw, vs, rfl, hsl, hS, hb⟩ := h
  have hal := bal (Below.refl w.heap.size w) (.cells #[.bool u.r.choice, vh, .bool u.r.sum, .int .i64 u.r.bound, vb, vw, .int .i64 u.b, vs] 68)
  obtain ⟨a1, c1, rfl, -, hl1, -, -⟩ := hsl.head.form
  obtain ⟨a2, c2, rfl, -, hl2, -, -⟩ := hsl.body.form
  obtain ⟨a3, c3, rfl, -, hl3, -, -⟩ := hsl.wts.form
  obtain ⟨a4, c4, rfl, -, hl4, -, -⟩ := hS.form
  have HBK := Lib.hid (Blk.new w [.bool u.r.choice, .slice a1 u.r.head.length c1, .bool u.r.sum, .int .i64 u.r.bound, .slice a2 u.r.body.length c2, .slice a3 u.r.w.length c3, .int .i64 u.b, .slice a4 u.S.length c4] 68)
  have HSL := Lib.hid hsl
  have HS := Lib.hid hS
  have HAL := Lib.hid hal
  clear hsl hS hal
  cases hch : u.r.choice with
  | true =>
    have HF : Hid (oth u = []) := Lib.hid (by unfold oth; rw [hch]; rfl)
    rw [hch] at HAL
    clear HBK
    go_enter Tryz.func73, Tryz.ntmps73
    go_wp2
    go_ret
    exact ⟨_, _, _, rfl, by rw [HF.out]; exact QRow.nil _ _, HAL.out⟩
  | false =>
    have HF : Hid (oth u = keepF (fun x => decide (x ∈ u.S)) u.r.head u.r.head.length) := Lib.hid (by unfold oth; rw [hch]; rfl)
    rw [hch] at HAL HBK
    have HH0 := Lib.hid (HSL.out.head.below HAL.out)
    go_enter Tryz.func73, Tryz.ntmps73
    go_upto_region 3 with fail
    have kx := HBK.out.cell
    generalize w.alloc (.cells #[.bool false, .slice a1 u.r.head.length c1, .bool u.r.sum, .int .i64 u.r.bound, .slice a2 u.r.body.length c2, .slice a3 u.r.w.length c3, .int .i64 u.b, .slice a4 u.S.length c4] 68) = W0 at *
    have hz0 : w.heap.size < W0.heap.size := HBK.out.lt
    have HSB : Hid (∀ w', Below W0.heap.size W0 w' → SupB w' w.heap.size u) := Lib.hid (fun w' hb' => ⟨_, _, _, _, by rw [hch]; exact HBK.out.below hb', HSL.out.below (HAL.out.trans (hb'.mono (by omega))), HS.out.below (HAL.out.trans (hb'.mono (by omega))), hb⟩)
    go_wp2_with (first
      | (go_at_call 75; (with_reducible refine (delf_row HOW.out hz1 (fun x => decide (x ∈ u.S)) _ (fun w' hb' x => oth1_any u _ x w' (HSB.out w' (HB1.out.trans hb')))).mono ?_); rintro e w2 ⟨a5, n5, c5, rfl, hq5, hb5⟩; have HQ5 := Lib.hid hq5; have HB5 := Lib.hid hb5; clear hq5 hb5)
      | (go_at_call 61; (with_reducible refine (cloneI_any _ u.r.head W0 HH0.out).mono ?_); rintro e w1 ⟨v1, rfl, ho1, hb1⟩; have HOW := Lib.hid ho1; have HB1 := Lib.hid hb1; have hz1 := hb1.size; have kx1 := fun o => (bcell hb1 _ o HBK.out.lt).trans (HBK.out.cell o); clear ho1 hb1))
    go_ret
    exact ⟨_, _, _, rfl, by rw [HF.out]; exact HQ5.out.mono (by omega), HAL.out.trans ((HB1.out.trans HB5.out).mono (by omega))⟩

def impB (u : SU) : Bool := if u.r.sum then decide (wgt u (fun _ => true) u.r.body.length < u.r.bound) else anyR u.r.body.length (fun j => intB u.S (ix u.r.body j))

theorem imp1_any (w : World) (l : Int) : Calls Tryz.prog 105 #[.int .i64 l] w fun e w' => e = .returned (.bool true) ∧ w = w' := by
  go_enter Tryz.func105, Tryz.ntmps105
  go_wp2
  go_ret
  exact ⟨rfl, rfl⟩

set_option maxHeartbeats 1000000 in
theorem idx_int (v : Value) (l : List Int) (w : World) (h : Ints w v l) (g : Nat → Bool) (fst : Value)
    (hg : ∀ w', Below w.heap.size w w' → ∀ j, j < l.length → Calls Tryz.prog 77 #[fst, .int .i64 (ix l j)] w' fun e w'' => e = .returned (.bool (g j)) ∧ Below w'.heap.size w' w'') :
    Calls Tryz.prog 72 #[v, .func (.func 77) #[fst] #[]] w fun e w' => ∃ r, e = .returned (.int .i64 r) ∧ IxP l.length g r ∧ Below w.heap.size w w' := by
  obtain ⟨a1, c1, rfl, -, hl1, -, hcell⟩ := h.form
  have HG := Lib.hid hg
  clear h hg
  go_enter Tryz.func72, Tryz.ntmps72
  go_wp2
  go_loopw [8] (fun i wx => IxR l.length g w i wx) (fun i _ => l.length - (intOf i).toNat)
  case atStart => exact ⟨0, by omega, rfl, fun j hj => absurd hj (Nat.not_lt_zero _), Below.refl _ _⟩
  case round =>
    obtain ⟨k, hk, rfl, hall, hb⟩ := hrel
    have HA := Lib.hid hall
    clear hall
    by_cases hlt : k < l.length
    · obtain ⟨b, off, rfl, hbl, hc⟩ := hcell (by omega)
      have hk1 := (bcell hb _ _ hbl).trans (hc k hlt)
      clear hc hcell
      cases g1 : g k with
      | true =>
        have HK : Hid (_ = true) := Lib.hid g1
        have HC := Lib.hid (HG.out _ hb k hlt)
        rw [g1] at HC
        clear g1
        go_wp2_with (go_at_call 77; refine (HC.out).mono ?_; rintro e w1 ⟨rfl, hb1⟩)
        go_ret
        exact ⟨_, rfl, .inr ⟨k, hlt, rfl, HK.out, HA.out⟩, bon hb hb1⟩
      | false =>
        have HN := Lib.hid (lt_succ_all HA.out g1)
        have HC := Lib.hid (HG.out _ hb k hlt)
        rw [g1] at HC
        clear g1
        go_wp2_with (go_at_call 77; refine (HC.out).mono ?_; rintro e w1 ⟨rfl, hb1⟩)
        first
          | (go_roundw
             case rel => (exact ⟨k + 1, by omega, by go_num, HN.out, bon hb hb1⟩)
             case measure => (simp [intOf]; omega))
          | (refine ⟨?_, ?_⟩
             · (exact ⟨k + 1, by omega, by go_num, HN.out, bon hb hb1⟩)
             · (simp [intOf]; omega))
    · have HN : Hid (∀ j, j < l.length → g j = false) := Lib.hid (fun j hj => HA.out j (by omega))
      go_wp2
      go_ret
      exact ⟨_, rfl, .inl ⟨rfl, HN.out⟩, hb⟩

set_option maxHeartbeats 1000000 in
theorem ctn_int (v : Value) (l : List Int) (w : World) (h : Ints w v l) (g : Nat → Bool) (fst : Value)
    (hg : ∀ w', Below w.heap.size w w' → ∀ j, j < l.length → Calls Tryz.prog 77 #[fst, .int .i64 (ix l j)] w' fun e w'' => e = .returned (.bool (g j)) ∧ Below w'.heap.size w' w'') :
    Calls Tryz.prog 44 #[v, .func (.func 77) #[fst] #[]] w fun e w' => e = .returned (.bool (anyR l.length g)) ∧ Below w.heap.size w w' := by
  have HI := Lib.hid (idx_int v l w h g fst hg)
  obtain ⟨a1, c1, rfl, -⟩ := h.form
  clear h hg
  go_enter Tryz.func44, Tryz.ntmps44
  go_wp2_with (go_at_call 72; refine (HI.out).mono ?_; rintro e w1 ⟨r, rfl, hr, hb1⟩; have HR := Lib.hid hr; clear hr)
  go_ret
  exact ⟨ret_bool HR.out.any, hb1⟩

set_option maxHeartbeats 4000000 in
set_option maxRecDepth 100000 in
theorem impossible_any (v : Value) (u : SU) (w : World) (h : SupIs w v u) (hok : SUok u) :
    Calls Tryz.prog 71 #[v] w fun e w' => e = .returned (.bool (impB u)) ∧ Below w.heap.size w w' := by
  have h0 := h
  obtain ⟨vh, vb, vw, vs, rfl, hsl, hS, hb⟩ := h
  have hal := bal (Below.refl w.heap.size w) (.cells #[.bool u.r.choice, vh, .bool u.r.sum, .int .i64 u.r.bound, vb, vw, .int .i64 u.b, vs] 68)
  obtain ⟨a1, c1, rfl, -, hl1, -, -⟩ := hsl.head.form
  obtain ⟨a2, c2, rfl, -, hl2, -, -⟩ := hsl.body.form
  obtain ⟨a3, c3, rfl, -, hl3, -, -⟩ := hsl.wts.form
  obtain ⟨a4, c4, rfl, -, hl4, -, -⟩ := hS.form
  have HBK := Lib.hid (Blk.new w [.bool u.r.choice, .slice a1 u.r.head.length c1, .bool u.r.sum, .int .i64 u.r.bound, .slice a2 u.r.body.length c2, .slice a3 u.r.w.length c3, .int .i64 u.b, .slice a4 u.S.length c4] 68)
  have HB0 := Lib.hid (hsl.body.below hal)
  have H0 := Lib.hid (h0.below hal)
  have HAL := Lib.hid hal
  have HOK := Lib.hid hok
  have hbd := hok.bound
  clear hsl hS hal h0 hok
  cases hs : u.r.sum with
  | true =>
    have HF : Hid (impB u = decide (wgt u (fun _ => true) u.r.body.length < u.r.bound)) := Lib.hid (by unfold impB; rw [hs]; rfl)
    have HSM := Lib.hid hs
    have hwl := wgt_le HOK.out HSM.out (fun _ => true) u.r.body.length (Nat.le_refl _)
    have hsm := (HOK.out.wts HSM.out).2.2 u.r.body.length (by have := (HOK.out.wts HSM.out).1; omega)
    rw [hs] at HAL HBK H0 HB0
    clear hs
    go_enter Tryz.func71, Tryz.ntmps71
    go_upto_region 2 with fail
    generalize w.alloc (.cells #[.bool u.r.choice, .slice a1 u.r.head.length c1, .bool true, .int .i64 u.r.bound, .slice a2 u.r.body.length c2, .slice a3 u.r.w.length c3, .int .i64 u.b, .slice a4 u.S.length c4] 68) = W0 at *
    have kx : ∀ e : Ext W0, ∀ o, e.world.cell? ⟨w.heap.size, o, none⟩ = [Value.bool u.r.choice, .slice a1 u.r.head.length c1, .bool true, .int .i64 u.r.bound, .slice a2 u.r.body.length c2, .slice a3 u.r.w.length c3, .int .i64 u.b, .slice a4 u.S.length c4][o]? := fun e o => (bcell e.below _ o HBK.out.lt).trans (HBK.out.cell o)
    have HW : Hid (∀ e : Ext W0, Calls Tryz.prog 104 #[.agg #[.bool u.r.choice, .slice a1 u.r.head.length c1, .bool true, .int .i64 u.r.bound, .slice a2 u.r.body.length c2, .slice a3 u.r.w.length c3, .int .i64 u.b, .slice a4 u.S.length c4], .func (.func 105) #[] #[]] e.world fun e2 w' => e2 = .returned (.int .i64 (wgt u (fun _ => true) u.r.body.length)) ∧ Below e.world.heap.size e.world w') := Lib.hid (fun e => wgt_imp1 _ u _ (H0.out.below e.below) HOK.out HSM.out (fun _ => true) (fun w' _ l _ _ => (imp1_any w' l).mono fun e w'' ⟨e1, e2⟩ => ⟨e1, e2 ▸ Below.refl _ _⟩))
    have hzW : w.heap.size < W0.heap.size := HBK.out.lt
    refine wp_region_ext (by kernel_rfl) (by kernel_rfl) ?_
    repeat (go_big_quiet_step ((go_at_call 104; exact Calls.ext_of (HW.out _))))
    refine wpQuiet_nil ?_
    intro w9 hw'
    obtain ⟨e9, he9⟩ := hw'
    have hb9 := e9.below
    rw [← he9] at hb9
    clear he9 e9
    try dsimp only
    go_wp2
    go_ret
    exact ⟨ret_bool HF.out.symm, HAL.out.trans (hb9.mono (by omega))⟩
  | false =>
    have HF : Hid (impB u = anyR u.r.body.length (fun j => intB u.S (ix u.r.body j))) := Lib.hid (by unfold impB; rw [hs]; rfl)
    rw [hs] at HAL HBK H0 HB0
    clear hs
    go_enter Tryz.func71, Tryz.ntmps71
    go_upto_region 3 with fail
    have kx := HBK.out.cell
    generalize w.alloc (.cells #[.bool u.r.choice, .slice a1 u.r.head.length c1, .bool false, .int .i64 u.r.bound, .slice a2 u.r.body.length c2, .slice a3 u.r.w.length c3, .int .i64 u.b, .slice a4 u.S.length c4] 68) = W0 at *
    have hzW : w.heap.size < W0.heap.size := HBK.out.lt
    go_wp2_with (go_at_call 44; (with_reducible refine (ctn_int _ u.r.body W0 HB0.out (fun j => intB u.S (ix u.r.body j)) _ (fun w' hb' j _ => internal_any _ u _ w' (H0.out.below hb'))).mono ?_); rintro e w2 ⟨rfl, hb2⟩; have HB2 := Lib.hid hb2; clear hb2)
    go_ret
    exact ⟨ret_bool HF.out.symm, HAL.out.trans (HB2.out.mono (by omega))⟩

end Go.Proofs.YthclpkhaenaknaaGreatDoor

/- loops: support.excluded, with Unfounded's closure. -/
namespace Go.Proofs.YthclpkhaenaknaaGreatDoor
open Go.RowKit



/-- What excluded has boxed: the support, the closure, the assignment. -/
structure EnvU (w : World) (sb fb ab : Nat) (u : SU) (a : List Int) : Prop where
  sup : SupB w sb u
  fn : Blk w fb [.func (.func 38) #[] #[.pointer (some ⟨ab, 0, none⟩)]] 77
  asg : InU w ab a

theorem EnvU.below {w w' : World} {sb fb ab : Nat} {u : SU} {a : List Int} (h : EnvU w sb fb ab u a) (hb : Below w.heap.size w w') : EnvU w' sb fb ab u a := ⟨h.sup.below hb, h.fn.below hb, h.asg.below hb⟩

section
variable {w : World} {sb fb ab : Nat} {u : SU} {a : List Int}

set_option maxHeartbeats 1000000 in
theorem neg_in (h : EnvU w sb fb ab u a) (x : Int) (hx : 1 ≤ x ∧ x ≤ 1000000) :
    Calls Tryz.prog 111 #[.int .i64 x, .pointer (some ⟨fb, 0, none⟩)] w fun e w' => e = .returned (.bool (offB a (-x))) ∧ w = w' := by
  have kf := h.fn.cell 0
  have HI := Lib.hid (inU_any (-x) ab a w h.asg (by omega))
  clear h
  go_enter Tryz.func111, Tryz.ntmps111
  go_wp2_with (go_at_call 38; (with_reducible refine (HI.out).mono ?_); rintro e w1 ⟨rfl, rfl⟩)
  go_ret
  exact ⟨rfl, rfl⟩

set_option maxHeartbeats 1000000 in
theorem not_in (h : EnvU w sb fb ab u a) (x : Int) (hx : 1 ≤ x.natAbs ∧ x.natAbs ≤ 1000000) :
    Calls Tryz.prog 113 #[.int .i64 x, .pointer (some ⟨fb, 0, none⟩)] w fun e w' => e = .returned (.bool (!offB a x)) ∧ w = w' := by
  have kf := h.fn.cell 0
  have HI := Lib.hid (inU_any x ab a w h.asg hx)
  clear h
  go_enter Tryz.func113, Tryz.ntmps113
  go_wp2_with (go_at_call 38; (with_reducible refine (HI.out).mono ?_); rintro e w1 ⟨rfl, rfl⟩)
  go_ret
  exact ⟨rfl, rfl⟩

set_option maxHeartbeats 1000000 in
theorem ex1_any (h : EnvU w sb fb ab u a) (hok : SUok u) :
    Calls Tryz.prog 108 #[.pointer (some ⟨fb, 0, none⟩), .pointer (some ⟨sb, 0, none⟩)] w fun e w' => e = .returned (.bool (offB a u.b)) ∧ w = w' := by
  have kf := h.fn.cell 0
  obtain ⟨vh, vb, vw, vs, h0, -, -, -⟩ := h.sup
  have k6 := h0.cell 6
  have HI := Lib.hid (inU_any u.b ab a w h.asg (by have := hok.b; omega))
  clear h h0 hok
  go_enter Tryz.func108, Tryz.ntmps108
  go_wp2_with (go_at_call 38; (with_reducible refine (HI.out).mono ?_); rintro e w1 ⟨rfl, rfl⟩)
  go_ret
  exact ⟨rfl, rfl⟩
end

set_option maxHeartbeats 1000000 in
theorem idx_inU (v : Value) (l : List Int) (w : World) (h : Ints w v l) (g : Nat → Bool) (cap : Value)
    (hg : ∀ w', Below w.heap.size w w' → ∀ j, j < l.length → Calls Tryz.prog 38 #[.int .i64 (ix l j), cap] w' fun e w'' => e = .returned (.bool (g j)) ∧ Below w'.heap.size w' w'') :
    Calls Tryz.prog 72 #[v, .func (.func 38) #[] #[cap]] w fun e w' => ∃ r, e = .returned (.int .i64 r) ∧ IxP l.length g r ∧ Below w.heap.size w w' := by
  obtain ⟨a1, c1, rfl, -, hl1, -, hcell⟩ := h.form
  have HG := Lib.hid hg
  clear h hg
  go_enter Tryz.func72, Tryz.ntmps72
  go_wp2
  go_loopw [8] (fun i wx => IxR l.length g w i wx) (fun i _ => l.length - (intOf i).toNat)
  case atStart => exact ⟨0, by omega, rfl, fun j hj => absurd hj (Nat.not_lt_zero _), Below.refl _ _⟩
  case round =>
    obtain ⟨k, hk, rfl, hall, hb⟩ := hrel
    have HA := Lib.hid hall
    clear hall
    by_cases hlt : k < l.length
    · obtain ⟨b, off, rfl, hbl, hc⟩ := hcell (by omega)
      have hk1 := (bcell hb _ _ hbl).trans (hc k hlt)
      clear hc hcell
      cases g1 : g k with
      | true =>
        have HK : Hid (_ = true) := Lib.hid g1
        have HC := Lib.hid (HG.out _ hb k hlt)
        rw [g1] at HC
        clear g1
        go_wp2_with (go_at_call 38; refine (HC.out).mono ?_; rintro e w1 ⟨rfl, hb1⟩)
        go_ret
        exact ⟨_, rfl, .inr ⟨k, hlt, rfl, HK.out, HA.out⟩, bon hb hb1⟩
      | false =>
        have HN := Lib.hid (lt_succ_all HA.out g1)
        have HC := Lib.hid (HG.out _ hb k hlt)
        rw [g1] at HC
        clear g1
        go_wp2_with (go_at_call 38; refine (HC.out).mono ?_; rintro e w1 ⟨rfl, hb1⟩)
        first
          | (go_roundw
             case rel => (exact ⟨k + 1, by omega, by go_num, HN.out, bon hb hb1⟩)
             case measure => (simp [intOf]; omega))
          | (refine ⟨?_, ?_⟩
             · (exact ⟨k + 1, by omega, by go_num, HN.out, bon hb hb1⟩)
             · (simp [intOf]; omega))
    · have HN : Hid (∀ j, j < l.length → g j = false) := Lib.hid (fun j hj => HA.out j (by omega))
      go_wp2
      go_ret
      exact ⟨_, rfl, .inl ⟨rfl, HN.out⟩, hb⟩

set_option maxHeartbeats 1000000 in
theorem ctn_inU (v : Value) (l : List Int) (w : World) (h : Ints w v l) (g : Nat → Bool) (cap : Value)
    (hg : ∀ w', Below w.heap.size w w' → ∀ j, j < l.length → Calls Tryz.prog 38 #[.int .i64 (ix l j), cap] w' fun e w'' => e = .returned (.bool (g j)) ∧ Below w'.heap.size w' w'') :
    Calls Tryz.prog 44 #[v, .func (.func 38) #[] #[cap]] w fun e w' => e = .returned (.bool (anyR l.length g)) ∧ Below w.heap.size w w' := by
  have HI := Lib.hid (idx_inU v l w h g cap hg)
  obtain ⟨a1, c1, rfl, -⟩ := h.form
  clear h hg
  go_enter Tryz.func44, Tryz.ntmps44
  go_wp2_with (go_at_call 72; refine (HI.out).mono ?_; rintro e w1 ⟨r, rfl, hr, hb1⟩; have HR := Lib.hid hr; clear hr)
  go_ret
  exact ⟨ret_bool HR.out.any, hb1⟩
set_option maxHeartbeats 1000000 in
theorem idx_neg (v : Value) (l : List Int) (w : World) (h : Ints w v l) (g : Nat → Bool) (cap : Value)
    (hg : ∀ w', Below w.heap.size w w' → ∀ j, j < l.length → Calls Tryz.prog 111 #[.int .i64 (ix l j), cap] w' fun e w'' => e = .returned (.bool (g j)) ∧ Below w'.heap.size w' w'') :
    Calls Tryz.prog 72 #[v, .func (.func 111) #[] #[cap]] w fun e w' => ∃ r, e = .returned (.int .i64 r) ∧ IxP l.length g r ∧ Below w.heap.size w w' := by
  obtain ⟨a1, c1, rfl, -, hl1, -, hcell⟩ := h.form
  have HG := Lib.hid hg
  clear h hg
  go_enter Tryz.func72, Tryz.ntmps72
  go_wp2
  go_loopw [8] (fun i wx => IxR l.length g w i wx) (fun i _ => l.length - (intOf i).toNat)
  case atStart => exact ⟨0, by omega, rfl, fun j hj => absurd hj (Nat.not_lt_zero _), Below.refl _ _⟩
  case round =>
    obtain ⟨k, hk, rfl, hall, hb⟩ := hrel
    have HA := Lib.hid hall
    clear hall
    by_cases hlt : k < l.length
    · obtain ⟨b, off, rfl, hbl, hc⟩ := hcell (by omega)
      have hk1 := (bcell hb _ _ hbl).trans (hc k hlt)
      clear hc hcell
      cases g1 : g k with
      | true =>
        have HK : Hid (_ = true) := Lib.hid g1
        have HC := Lib.hid (HG.out _ hb k hlt)
        rw [g1] at HC
        clear g1
        go_wp2_with (go_at_call 111; refine (HC.out).mono ?_; rintro e w1 ⟨rfl, hb1⟩)
        go_ret
        exact ⟨_, rfl, .inr ⟨k, hlt, rfl, HK.out, HA.out⟩, bon hb hb1⟩
      | false =>
        have HN := Lib.hid (lt_succ_all HA.out g1)
        have HC := Lib.hid (HG.out _ hb k hlt)
        rw [g1] at HC
        clear g1
        go_wp2_with (go_at_call 111; refine (HC.out).mono ?_; rintro e w1 ⟨rfl, hb1⟩)
        first
          | (go_roundw
             case rel => (exact ⟨k + 1, by omega, by go_num, HN.out, bon hb hb1⟩)
             case measure => (simp [intOf]; omega))
          | (refine ⟨?_, ?_⟩
             · (exact ⟨k + 1, by omega, by go_num, HN.out, bon hb hb1⟩)
             · (simp [intOf]; omega))
    · have HN : Hid (∀ j, j < l.length → g j = false) := Lib.hid (fun j hj => HA.out j (by omega))
      go_wp2
      go_ret
      exact ⟨_, rfl, .inl ⟨rfl, HN.out⟩, hb⟩

set_option maxHeartbeats 1000000 in
theorem ctn_neg (v : Value) (l : List Int) (w : World) (h : Ints w v l) (g : Nat → Bool) (cap : Value)
    (hg : ∀ w', Below w.heap.size w w' → ∀ j, j < l.length → Calls Tryz.prog 111 #[.int .i64 (ix l j), cap] w' fun e w'' => e = .returned (.bool (g j)) ∧ Below w'.heap.size w' w'') :
    Calls Tryz.prog 44 #[v, .func (.func 111) #[] #[cap]] w fun e w' => e = .returned (.bool (anyR l.length g)) ∧ Below w.heap.size w w' := by
  have HI := Lib.hid (idx_neg v l w h g cap hg)
  obtain ⟨a1, c1, rfl, -⟩ := h.form
  clear h hg
  go_enter Tryz.func44, Tryz.ntmps44
  go_wp2_with (go_at_call 72; refine (HI.out).mono ?_; rintro e w1 ⟨r, rfl, hr, hb1⟩; have HR := Lib.hid hr; clear hr)
  go_ret
  exact ⟨ret_bool HR.out.any, hb1⟩
set_option maxHeartbeats 4000000 in
set_option maxRecDepth 100000 in
theorem wgt_not (v : Value) (u : SU) (w : World) (h : SupIs w v u) (hok : SUok u) (hs : u.r.sum = true) (g : Int → Bool) (cap : Value)
    (hg : ∀ w', Below w.heap.size w w' → ∀ l : Int, 1 ≤ l.natAbs → l.natAbs ≤ 1000000 → Calls Tryz.prog 113 #[.int .i64 l, cap] w' fun e w'' => e = .returned (.bool (g l)) ∧ Below w'.heap.size w' w'') :
    Calls Tryz.prog 104 #[v, .func (.func 113) #[] #[cap]] w fun e w' => e = .returned (.int .i64 (wgt u g u.r.body.length)) ∧ Below w.heap.size w w' := by
  have h0 := h
  obtain ⟨vh, vb, vw, vs, rfl, hsl, hS, hb⟩ := h
  have hal := bal (Below.refl w.heap.size w) (.cells #[.bool u.r.choice, vh, .bool u.r.sum, .int .i64 u.r.bound, vb, vw, .int .i64 u.b, vs] 68)
  obtain ⟨a1, c1, rfl, -, hl1, -, -⟩ := hsl.head.form
  obtain ⟨a2, c2, rfl, -, hl2, -, hcb⟩ := hsl.body.form
  obtain ⟨a3, c3, rfl, -, hl3, -, hcw⟩ := hsl.wts.form
  obtain ⟨a4, c4, rfl, -, hl4, -, -⟩ := hS.form
  have H0 := Lib.hid h0
  have HG := Lib.hid hg
  have HBK := Lib.hid (Blk.new w [.bool u.r.choice, .slice a1 u.r.head.length c1, .bool u.r.sum, .int .i64 u.r.bound, .slice a2 u.r.body.length c2, .slice a3 u.r.w.length c3, .int .i64 u.b, .slice a4 u.S.length c4] 68)
  have HCB := Lib.hid hcb
  have HCW := Lib.hid hcw
  have HOK := Lib.hid hok
  have HWS := Lib.hid (hok.wts hs)
  have hwl : u.r.w.length ≤ u.r.body.length ∧ u.r.body.length ≤ u.r.w.length := by have := (hok.wts hs).1; omega
  have HSM := Lib.hid hs
  clear h0 hsl hS hb hg hcb hcw hok hs
  go_enter Tryz.func104, Tryz.ntmps104
  go_upto_region 1 with fail
  have HAL := Lib.hid hal
  clear hal
  generalize w.alloc (.cells #[.bool u.r.choice, .slice a1 u.r.head.length c1, .bool u.r.sum, .int .i64 u.r.bound, .slice a2 u.r.body.length c2, .slice a3 u.r.w.length c3, .int .i64 u.b, .slice a4 u.S.length c4] 68) = W0 at *
  have kx := HBK.out.cell
  have hzW : w.heap.size < W0.heap.size := HBK.out.lt
  go_wp2_with fail
  clear kx
  go_loopw [5, 12] (fun s i wx => WgRel u g W0 s i wx) (fun _ i _ => u.r.body.length - (intOf i).toNat)
  case atStart => exact ⟨0, Nat.zero_le _, rfl, rfl, Below.refl _ _⟩
  case round =>
    obtain ⟨k, hk, rfl, rfl, hbx⟩ := hrel
    have HBX := Lib.hid hbx
    have hbw : Below w.heap.size w wr := HAL.out.trans (hbx.mono (by omega))
    have HBW := Lib.hid hbw
    have kx := fun o => (bcell hbx _ o HBK.out.lt).trans (HBK.out.cell o)
    have hz := hbx.size
    have hle := wgt_le HOK.out HSM.out g k hk
    have hsm := HWS.out.2.2 k (by omega)
    clear hbx
    by_cases hlt : k < u.r.body.length
    · obtain ⟨bb, offb, rfl, hbb, hcb⟩ := HCB.out (by omega)
      have kb := (bcell hbw _ _ hbb).trans (hcb k hlt)
      obtain ⟨bw, offw, rfl, hbw2, hcw⟩ := HCW.out (by omega)
      have hcw0 := hcw k (by omega)
      have kw := (bcell hbw _ _ hbw2).trans hcw0
      have hle2 := wgt_le HOK.out HSM.out g (k + 1) hlt
      have hsm2 := HWS.out.2.2 (k + 1) (by omega)
      have hl := HOK.out.lits k hlt
      have HIN := Lib.hid (internal_any _ u (ix u.r.body k) wr (H0.out.below hbw))
      have HST : Hid (wgt u g (k + 1) = wgt u g k + if !intB u.S (ix u.r.body k) && g (ix u.r.body k) then ix u.r.w k else 0) := Lib.hid rfl
      have hw1 := HWS.out.2.1 k (by omega)
      clear hcb hcw hbw
      cases hi : intB u.S (ix u.r.body k) with
      | true =>
        rw [hi] at HIN HST
        have HS2 : Hid (wgt u g (k + 1) = wgt u g k) := Lib.hid (by rw [HST.out]; simp)
        go_wp2_with (go_at_call 77; (with_reducible refine (HIN.out).mono ?_); rintro e w1 ⟨rfl, hb1⟩; have HB1 := Lib.hid (bon HBX.out hb1); clear hb1)
        first
          | (go_roundw
             case rel => (exact ⟨k + 1, by omega, by go_num, by rw [HS2.out], HB1.out⟩)
             case measure => (simp [intOf]; omega))
          | (refine ⟨?_, ?_⟩
             · (exact ⟨k + 1, by omega, by go_num, by rw [HS2.out], HB1.out⟩)
             · (simp [intOf]; omega))
      | false =>
        rw [hi] at HIN HST
        cases hgl : g (ix u.r.body k) with
        | false =>
          rw [hgl] at HST
          have HS2 : Hid (wgt u g (k + 1) = wgt u g k) := Lib.hid (by rw [HST.out]; simp)
          go_wp2_with (first | (go_at_call 113; (with_reducible refine (HG.out _ (bon HBW.out hb1) _ hl.1 hl.2).mono ?_); rintro e w2 ⟨e2, hb2⟩; rw [hgl] at e2; subst e2; have HB2 := Lib.hid (bon (bon HBX.out hb1) hb2)) | (go_at_call 77; (with_reducible refine (HIN.out).mono ?_); rintro e w1 ⟨rfl, hb1⟩; have kx1 := fun o => (bcell (bon HBX.out hb1) _ o HBK.out.lt).trans (HBK.out.cell o); have hz1 := hb1.size))
          first
            | (go_roundw
               case rel => (exact ⟨k + 1, by omega, by go_num, by rw [HS2.out], HB2.out⟩)
               case measure => (simp [intOf]; omega))
            | (refine ⟨?_, ?_⟩
               · (exact ⟨k + 1, by omega, by go_num, by rw [HS2.out], HB2.out⟩)
               · (simp [intOf]; omega))
        | true =>
          rw [hgl] at HST
          have HS2 : Hid (wgt u g (k + 1) = wgt u g k + ix u.r.w k) := Lib.hid (by rw [HST.out]; simp)
          have hs2 : wgt u g k + ix u.r.w k ≤ 1048576 := by rw [HS2.out] at hle2; omega
          go_wp2_with (first | (go_at_call 113; (with_reducible refine (HG.out _ (bon HBW.out hb1) _ hl.1 hl.2).mono ?_); rintro e w2 ⟨e2, hb2⟩; rw [hgl] at e2; subst e2; have HB2 := Lib.hid (bon (bon HBX.out hb1) hb2); have kw2 := (bcell (bon (bon HBW.out hb1) hb2) _ _ hbw2).trans hcw0; have kx2 := fun o => (bcell (bon (bon HBX.out hb1) hb2) _ o HBK.out.lt).trans (HBK.out.cell o); have hz2 := hb2.size) | (go_at_call 77; (with_reducible refine (HIN.out).mono ?_); rintro e w1 ⟨rfl, hb1⟩; have kx1 := fun o => (bcell (bon HBX.out hb1) _ o HBK.out.lt).trans (HBK.out.cell o); have hz1 := hb1.size))
          first
            | (go_roundw
               case rel => (exact ⟨k + 1, by omega, by go_num, by rw [HS2.out], HB2.out⟩)
               case measure => (simp [intOf]; omega))
            | (refine ⟨?_, ?_⟩
               · (exact ⟨k + 1, by omega, by go_num, by rw [HS2.out], HB2.out⟩)
               · (simp [intOf]; omega))
    · obtain rfl : k = u.r.body.length := by omega
      go_wp2_with fail
      go_ret
      exact ⟨rfl, HAL.out.trans (HBX.out.mono (by omega))⟩

def ex2 (u : SU) (a : List Int) : Bool := !u.r.sum && anyR u.r.body.length (fun j => offB a (ix u.r.body j))
def ex3 (u : SU) (a : List Int) : Bool := anyR (oth u).length (fun j => offB a (-(ix (oth u) j)))
def ex4 (u : SU) (a : List Int) : Bool := u.r.sum && decide (wgt u (fun l => !offB a l) u.r.body.length < u.r.bound)

theorem oth_mem {u : SU} {j : Nat} (hok : SUok u) (hj : j < (oth u).length) : 1 ≤ ix (oth u) j ∧ ix (oth u) j ≤ 1000000 := by
  have hm := ix_mem hj
  have : ix (oth u) j ∈ u.r.head := by
    generalize ix (oth u) j = x at *
    unfold oth at hm
    split at hm
    · simp at hm
    · unfold keepF at hm
      exact List.mem_of_mem_take (List.mem_filter.1 hm).1
  obtain ⟨k, hk, e⟩ := mem_ix.1 this
  have := hok.head k hk
  omega

section
variable {w : World} {sb fb ab : Nat} {u : SU} {a : List Int}

set_option maxHeartbeats 1000000 in
theorem ex2_any (h : EnvU w sb fb ab u a) (hok : SUok u) :
    Calls Tryz.prog 109 #[.pointer (some ⟨sb, 0, none⟩), .pointer (some ⟨fb, 0, none⟩)] w fun e w' => e = .returned (.bool (ex2 u a)) ∧ Below w.heap.size w w' := by
  have kf := h.fn.cell 0
  obtain ⟨vh, vb, vw, vs, h0, hsl, -, -⟩ := h.sup
  obtain ⟨a2, c2, rfl, -, hl2, -, -⟩ := hsl.body.form
  have ks := h0.cell
  have HA := Lib.hid h.asg
  have HB := Lib.hid hsl.body
  have HOK := Lib.hid hok
  clear h h0 hsl hok
  cases hs : u.r.sum with
  | true =>
    have HF : Hid (ex2 u a = false) := Lib.hid (by unfold ex2; rw [hs]; rfl)
    go_enter Tryz.func109, Tryz.ntmps109
    go_wp2
    go_ret
    exact ⟨ret_bool HF.out.symm, Below.refl _ _⟩
  | false =>
    have HF : Hid (ex2 u a = anyR u.r.body.length (fun j => offB a (ix u.r.body j))) := Lib.hid (by unfold ex2; rw [hs]; rfl)
    go_enter Tryz.func109, Tryz.ntmps109
    go_wp2_with (go_at_call 44; (with_reducible refine (ctn_inU _ u.r.body w HB.out (fun j => offB a (ix u.r.body j)) _ (fun w' hb' j hj => (inU_any _ ab a w' (HA.out.below hb') (HOK.out.lits j hj)).mono fun e w'' ⟨e1, e2⟩ => ⟨e1, e2 ▸ Below.refl _ _⟩)).mono ?_); rintro e w2 ⟨rfl, hb2⟩; have HB2 := Lib.hid hb2; clear hb2)
    go_ret
    exact ⟨ret_bool HF.out.symm, HB2.out⟩

set_option maxHeartbeats 1000000 in
theorem ex3_any (h : EnvU w sb fb ab u a) (hok : SUok u) :
    Calls Tryz.prog 110 #[.pointer (some ⟨sb, 0, none⟩), .pointer (some ⟨fb, 0, none⟩)] w fun e w' => e = .returned (.bool (ex3 u a)) ∧ Below w.heap.size w w' := by
  have HE := Lib.hid h
  obtain ⟨vh, vb, vw, vs, h0, hsl, hS, hb⟩ := h.sup
  have ks := h0.cell
  have HSU : Hid (SupIs w (.agg #[.bool u.r.choice, vh, .bool u.r.sum, .int .i64 u.r.bound, vb, vw, .int .i64 u.b, vs]) u) := Lib.hid ⟨_, _, _, _, rfl, hsl, hS, hb⟩
  have HOK := Lib.hid hok
  have hol : (oth u).length * 8 ≤ 140737488351232 := by
    have h1 := hok.hlen
    have h2 := keepF_le (fun x => decide (x ∈ u.S)) u.r.head u.r.head.length
    unfold oth
    split
    · simp
    · omega
  clear h h0 hsl hS hok
  go_enter Tryz.func110, Tryz.ntmps110
  go_wp2_with (first
    | (go_at_call 44; (with_reducible refine (ctn_neg _ (oth u) _ HO.out (fun j => offB a (-(ix (oth u) j))) _ (fun w' hb' j hj => (neg_in (HE.out.below (bon HB1.out hb')) _ (oth_mem HOK.out hj)).mono fun e w'' ⟨e1, e2⟩ => ⟨e1, e2 ▸ Below.refl _ _⟩)).mono ?_); rintro e w2 ⟨rfl, hb2⟩; have HB2 := Lib.hid (bon HB1.out hb2); clear hb2)
    | (go_at_call 73; (with_reducible refine (others_any _ u _ HSU.out).mono ?_); rintro e w1 ⟨a5, n5, c5, rfl, hq1, hb1⟩; have HO := Lib.hid (hq1.ints hol); have HB1 := Lib.hid hb1; have kf1 := (bcell hb1 _ 0 HE.out.fn.lt).trans (HE.out.fn.cell 0); clear hq1 hb1))
  go_ret
  exact ⟨rfl, HB2.out⟩
end

end Go.Proofs.YthclpkhaenaknaaGreatDoor

/- loops: support.excluded, with Unfounded's closure: the fourth way, the list of ways. -/
namespace Go.Proofs.YthclpkhaenaknaaGreatDoor
open Go.RowKit


section
variable {w : World} {sb fb ab : Nat} {u : SU} {a : List Int}

set_option maxHeartbeats 4000000 in
set_option maxRecDepth 100000 in
theorem ex4_any (h : EnvU w sb fb ab u a) (hok : SUok u) :
    Calls Tryz.prog 112 #[.pointer (some ⟨sb, 0, none⟩), .pointer (some ⟨fb, 0, none⟩)] w fun e w' => e = .returned (.bool (ex4 u a)) ∧ Below w.heap.size w w' := by
  have HE := Lib.hid h
  obtain ⟨vh, vb, vw, vs, h0, hsl, hS, hb⟩ := h.sup
  have kx : ∀ e : Ext w, ∀ o, e.world.cell? ⟨sb, o, none⟩ = [Value.bool u.r.choice, vh, .bool u.r.sum, .int .i64 u.r.bound, vb, vw, .int .i64 u.b, vs][o]? := fun e o => (bcell e.below _ o h0.lt).trans (h0.cell o)
  have ks := h0.cell
  have HSU : Hid (SupIs w (.agg #[.bool u.r.choice, vh, .bool u.r.sum, .int .i64 u.r.bound, vb, vw, .int .i64 u.b, vs]) u) := Lib.hid ⟨_, _, _, _, rfl, hsl, hS, hb⟩
  have HOK := Lib.hid hok
  have hbd := hok.bound
  clear h h0 hsl hS hok
  cases hs : u.r.sum with
  | true =>
    have HF : Hid (ex4 u a = decide (wgt u (fun l => !offB a l) u.r.body.length < u.r.bound)) := Lib.hid (by unfold ex4; rw [hs, Bool.true_and])
    have HSM := Lib.hid hs
    have hwl := wgt_le HOK.out HSM.out (fun l => !offB a l) u.r.body.length (Nat.le_refl _)
    have hsm := (HOK.out.wts HSM.out).2.2 u.r.body.length (by have := (HOK.out.wts HSM.out).1; omega)
    rw [hs] at HSU
    simp only [hs] at kx
    have HW : Hid (∀ e : Ext w, Calls Tryz.prog 104 #[.agg #[.bool u.r.choice, vh, .bool true, .int .i64 u.r.bound, vb, vw, .int .i64 u.b, vs], .func (.func 113) #[] #[.pointer (some ⟨fb, 0, none⟩)]] e.world fun e2 w' => e2 = .returned (.int .i64 (wgt u (fun l => !offB a l) u.r.body.length)) ∧ Below e.world.heap.size e.world w') := Lib.hid (fun e => wgt_not _ u _ (HSU.out.below e.below) HOK.out HSM.out (fun l => !offB a l) _ (fun w' hb' l h1 h2 => (not_in ((HE.out.below e.below).below hb') l ⟨h1, h2⟩).mono fun e w'' ⟨e1, e2⟩ => ⟨e1, e2 ▸ Below.refl _ _⟩))
    clear hs ks
    go_enter Tryz.func112, Tryz.ntmps112
    go_upto_region 1 with fail
    refine wp_region_ext (by kernel_rfl) (by kernel_rfl) ?_
    repeat (go_big_quiet_step ((go_at_call 104; exact Calls.ext_of (HW.out _))))
    refine wpQuiet_nil ?_
    intro w9 hw'
    obtain ⟨e9, he9⟩ := hw'
    have hb9 := e9.below
    rw [← he9] at hb9
    clear he9 e9
    try dsimp only
    go_wp2
    go_ret
    exact ⟨ret_bool HF.out.symm, hb9⟩
  | false =>
    have HF : Hid (ex4 u a = false) := Lib.hid (by unfold ex4; rw [hs, Bool.false_and])
    simp only [hs] at ks
    simp only [hs] at kx
    clear hs ks
    go_enter Tryz.func112, Tryz.ntmps112
    go_upto_region 1 with fail
    refine wp_region_ext (by kernel_rfl) (by kernel_rfl) ?_
    repeat (go_big_quiet_step (fail))
    refine wpQuiet_nil ?_
    intro w9 hw'
    obtain ⟨e9, he9⟩ := hw'
    have hb9 := e9.below
    rw [← he9] at hb9
    clear he9 e9
    try dsimp only
    go_wp2
    go_ret
    exact ⟨ret_bool HF.out.symm, hb9⟩
end

theorem ex5_imp {x : Value} {w : World} {b : Bool} (h : Calls Tryz.prog 71 #[x] w fun e w' => e = .returned (.bool b) ∧ Below w.heap.size w w') :
    Calls Tryz.prog 115 #[.func (.func 71) #[x] #[]] w fun e w' => e = .returned (.bool b) ∧ Below w.heap.size w w' := by
  have H := Lib.hid h
  clear h
  go_enter Tryz.func115, Tryz.ntmps115
  go_wp2_with (go_at_call 71; (with_reducible refine (H.out).mono ?_); rintro e w1 ⟨rfl, hb1⟩; have HB1 := Lib.hid hb1; clear hb1)
  go_ret
  exact ⟨rfl, HB1.out⟩
theorem ex5_1 {x y : Value} {w : World} {b : Bool} (h : Calls Tryz.prog 108 #[x, y] w fun e w' => e = .returned (.bool b) ∧ Below w.heap.size w w') :
    Calls Tryz.prog 115 #[.func (.func 108) #[] #[x, y]] w fun e w' => e = .returned (.bool b) ∧ Below w.heap.size w w' := by
  have H := Lib.hid h
  clear h
  go_enter Tryz.func115, Tryz.ntmps115
  go_wp2_with (go_at_call 108; (with_reducible refine (H.out).mono ?_); rintro e w1 ⟨rfl, hb1⟩; have HB1 := Lib.hid hb1; clear hb1)
  go_ret
  exact ⟨rfl, HB1.out⟩
theorem ex5_2 {x y : Value} {w : World} {b : Bool} (h : Calls Tryz.prog 109 #[x, y] w fun e w' => e = .returned (.bool b) ∧ Below w.heap.size w w') :
    Calls Tryz.prog 115 #[.func (.func 109) #[] #[x, y]] w fun e w' => e = .returned (.bool b) ∧ Below w.heap.size w w' := by
  have H := Lib.hid h
  clear h
  go_enter Tryz.func115, Tryz.ntmps115
  go_wp2_with (go_at_call 109; (with_reducible refine (H.out).mono ?_); rintro e w1 ⟨rfl, hb1⟩; have HB1 := Lib.hid hb1; clear hb1)
  go_ret
  exact ⟨rfl, HB1.out⟩
theorem ex5_3 {x y : Value} {w : World} {b : Bool} (h : Calls Tryz.prog 110 #[x, y] w fun e w' => e = .returned (.bool b) ∧ Below w.heap.size w w') :
    Calls Tryz.prog 115 #[.func (.func 110) #[] #[x, y]] w fun e w' => e = .returned (.bool b) ∧ Below w.heap.size w w' := by
  have H := Lib.hid h
  clear h
  go_enter Tryz.func115, Tryz.ntmps115
  go_wp2_with (go_at_call 110; (with_reducible refine (H.out).mono ?_); rintro e w1 ⟨rfl, hb1⟩; have HB1 := Lib.hid hb1; clear hb1)
  go_ret
  exact ⟨rfl, HB1.out⟩
theorem ex5_4 {x y : Value} {w : World} {b : Bool} (h : Calls Tryz.prog 112 #[x, y] w fun e w' => e = .returned (.bool b) ∧ Below w.heap.size w w') :
    Calls Tryz.prog 115 #[.func (.func 112) #[] #[x, y]] w fun e w' => e = .returned (.bool b) ∧ Below w.heap.size w w' := by
  have H := Lib.hid h
  clear h
  go_enter Tryz.func115, Tryz.ntmps115
  go_wp2_with (go_at_call 112; (with_reducible refine (H.out).mono ?_); rintro e w1 ⟨rfl, hb1⟩; have HB1 := Lib.hid hb1; clear hb1)
  go_ret
  exact ⟨rfl, HB1.out⟩

set_option maxHeartbeats 1000000 in
theorem idxF_any (p n : Nat) (fs : List Value) (w : World) (hn : n ≤ 1000) (h : Blk w p fs 32) (hl : fs.length = n) (g : Nat → Bool)
    (hg : ∀ w', Below w.heap.size w w' → ∀ j, j < n → ∀ v, fs[j]? = some v → Calls Tryz.prog 115 #[v] w' fun e w'' => e = .returned (.bool (g j)) ∧ Below w'.heap.size w' w'') :
    Calls Tryz.prog 127 #[.slice (some ⟨p, 0, none⟩) n n, .func (.func 115) #[] #[]] w fun e w' => ∃ r, e = .returned (.int .i64 r) ∧ IxP n g r ∧ Below w.heap.size w w' := by
  have HG := Lib.hid hg
  have HBK := Lib.hid h
  clear h hg
  go_enter Tryz.func127, Tryz.ntmps127
  go_wp2
  go_loopw [8] (fun i wx => IxR n g w i wx) (fun i _ => n - (intOf i).toNat)
  case atStart => exact ⟨0, by omega, rfl, fun j hj => absurd hj (Nat.not_lt_zero _), Below.refl _ _⟩
  case round =>
    obtain ⟨k, hk, rfl, hall, hb⟩ := hrel
    have HA := Lib.hid hall
    clear hall
    by_cases hlt : k < n
    · obtain ⟨v, hv⟩ : ∃ v, fs[k]? = some v := ⟨fs[k]'(by omega), List.getElem?_eq_getElem (by omega)⟩
      have hk1 : wr.cell? ⟨p, k, none⟩ = some v := (bcell hb _ _ HBK.out.lt).trans ((HBK.out.cell _).trans hv)
      have HC := Lib.hid (HG.out _ hb k hlt v hv)
      clear hv
      cases g1 : g k with
      | true =>
        have HK : Hid (_ = true) := Lib.hid g1
        rw [g1] at HC
        clear g1
        go_wp2_with (go_at_call 115; refine (HC.out).mono ?_; rintro e w1 ⟨rfl, hb1⟩)
        go_ret
        exact ⟨_, rfl, .inr ⟨k, hlt, rfl, HK.out, HA.out⟩, bon hb hb1⟩
      | false =>
        have HN := Lib.hid (lt_succ_all HA.out g1)
        rw [g1] at HC
        clear g1
        go_wp2_with (go_at_call 115; refine (HC.out).mono ?_; rintro e w1 ⟨rfl, hb1⟩)
        first
          | (go_roundw
             case rel => (exact ⟨k + 1, by omega, by go_num, HN.out, bon hb hb1⟩)
             case measure => (simp [intOf]; omega))
          | (refine ⟨?_, ?_⟩
             · (exact ⟨k + 1, by omega, by go_num, HN.out, bon hb hb1⟩)
             · (simp [intOf]; omega))
    · have HN : Hid (∀ j, j < n → g j = false) := Lib.hid (fun j hj => HA.out j (by omega))
      go_wp2
      go_ret
      exact ⟨_, rfl, .inl ⟨rfl, HN.out⟩, hb⟩

set_option maxHeartbeats 1000000 in
theorem ctnF_any (p n : Nat) (fs : List Value) (w : World) (hn : n ≤ 1000) (h : Blk w p fs 32) (hl : fs.length = n) (g : Nat → Bool)
    (hg : ∀ w', Below w.heap.size w w' → ∀ j, j < n → ∀ v, fs[j]? = some v → Calls Tryz.prog 115 #[v] w' fun e w'' => e = .returned (.bool (g j)) ∧ Below w'.heap.size w' w'') :
    Calls Tryz.prog 114 #[.slice (some ⟨p, 0, none⟩) n n, .func (.func 115) #[] #[]] w fun e w' => e = .returned (.bool (anyR n g)) ∧ Below w.heap.size w w' := by
  have HI := Lib.hid (idxF_any p n fs w hn h hl g hg)
  clear h hg
  go_enter Tryz.func114, Tryz.ntmps114
  go_wp2_with (go_at_call 127; refine (HI.out).mono ?_; rintro e w1 ⟨r, rfl, hr, hb1⟩; have HR := Lib.hid hr; clear hr)
  go_ret
  exact ⟨ret_bool HR.out.any, hb1⟩

/-- Whether the assignment excludes the support. -/
def exc (u : SU) (a : List Int) : Bool := impB u || offB a u.b || ex2 u a || ex3 u a || ex4 u a

def excG (u : SU) (a : List Int) : Nat → Bool
  | 0 => impB u
  | 1 => offB a u.b
  | 2 => ex2 u a
  | 3 => ex3 u a
  | _ => ex4 u a

theorem exc_any (u : SU) (a : List Int) : anyR 5 (excG u a) = exc u a := by
  have e : List.range 5 = [0, 1, 2, 3, 4] := rfl
  unfold anyR
  rw [e]
  simp [excG, exc, Bool.or_assoc]

theorem env_new {w : World} {vh vb vw vs : Value} {u : SU} {ab : Nat} {a : List Int} (h : SupIs w (.agg #[.bool u.r.choice, vh, .bool u.r.sum, .int .i64 u.r.bound, vb, vw, .int .i64 u.b, vs]) u) (ha : InU w ab a) :
    EnvU ((w.alloc (.cells #[.bool u.r.choice, vh, .bool u.r.sum, .int .i64 u.r.bound, vb, vw, .int .i64 u.b, vs] 68)).alloc (.cells #[.func (.func 38) #[] #[.pointer (some ⟨ab, 0, none⟩)]] 77)) w.heap.size (w.heap.size + 1) ab u a ∧
    Below w.heap.size w ((w.alloc (.cells #[.bool u.r.choice, vh, .bool u.r.sum, .int .i64 u.r.bound, vb, vw, .int .i64 u.b, vs] 68)).alloc (.cells #[.func (.func 38) #[] #[.pointer (some ⟨ab, 0, none⟩)]] 77)) := by
  obtain ⟨_, _, _, _, e, hsl, hS, hb⟩ := h
  simp only [Value.agg.injEq, Array.mk.injEq, List.cons.injEq, and_true] at e
  obtain ⟨-, rfl, -, -, rfl, rfl, -, rfl⟩ := e
  have hal := bal (Below.refl w.heap.size w) (.cells #[.bool u.r.choice, vh, .bool u.r.sum, .int .i64 u.r.bound, vb, vw, .int .i64 u.b, vs] 68)
  have hbk := Blk.new w [.bool u.r.choice, vh, .bool u.r.sum, .int .i64 u.r.bound, vb, vw, .int .i64 u.b, vs] 68
  have hsup : SupB _ w.heap.size u := ⟨vh, vb, vw, vs, hbk, hsl.below hal, hS.below hal, hb⟩
  have hz : (w.alloc (.cells #[.bool u.r.choice, vh, .bool u.r.sum, .int .i64 u.r.bound, vb, vw, .int .i64 u.b, vs] 68)).heap.size = w.heap.size + 1 := World.size_alloc ..
  have ha1 := ha.below hal
  generalize w.alloc (.cells #[.bool u.r.choice, vh, .bool u.r.sum, .int .i64 u.r.bound, vb, vw, .int .i64 u.b, vs] 68) = W1 at *
  have hal1 := bal (Below.refl W1.heap.size W1) (.cells #[.func (.func 38) #[] #[.pointer (some ⟨ab, 0, none⟩)]] 77)
  have hb1 := Blk.new W1 [.func (.func 38) #[] #[.pointer (some ⟨ab, 0, none⟩)]] 77
  rw [hz] at hb1
  exact ⟨⟨hsup.below hal1, hb1, ha1.below hal1⟩, hal.trans (hal1.mono (by omega))⟩

theorem ways_any {W : World} {x : Value} {sb fb ab : Nat} {u : SU} {a : List Int} (h : EnvU W sb fb ab u a) (hs : SupIs W x u) (hok : SUok u) :
    Calls Tryz.prog 114 #[.slice (some ⟨W.heap.size, 0, none⟩) 5 5, .func (.func 115) #[] #[]] (W.alloc (.cells #[.func (.func 71) #[x] #[], .func (.func 108) #[] #[.pointer (some ⟨fb, 0, none⟩), .pointer (some ⟨sb, 0, none⟩)], .func (.func 109) #[] #[.pointer (some ⟨sb, 0, none⟩), .pointer (some ⟨fb, 0, none⟩)], .func (.func 110) #[] #[.pointer (some ⟨sb, 0, none⟩), .pointer (some ⟨fb, 0, none⟩)], .func (.func 112) #[] #[.pointer (some ⟨sb, 0, none⟩), .pointer (some ⟨fb, 0, none⟩)]] 32)) fun e w' => e = .returned (.bool (exc u a)) ∧ Below W.heap.size W w' := by
  have hbk := Blk.new W [.func (.func 71) #[x] #[], .func (.func 108) #[] #[.pointer (some ⟨fb, 0, none⟩), .pointer (some ⟨sb, 0, none⟩)], .func (.func 109) #[] #[.pointer (some ⟨sb, 0, none⟩), .pointer (some ⟨fb, 0, none⟩)], .func (.func 110) #[] #[.pointer (some ⟨sb, 0, none⟩), .pointer (some ⟨fb, 0, none⟩)], .func (.func 112) #[] #[.pointer (some ⟨sb, 0, none⟩), .pointer (some ⟨fb, 0, none⟩)]] 32
  have hal := bal (Below.refl W.heap.size W) (.cells #[.func (.func 71) #[x] #[], .func (.func 108) #[] #[.pointer (some ⟨fb, 0, none⟩), .pointer (some ⟨sb, 0, none⟩)], .func (.func 109) #[] #[.pointer (some ⟨sb, 0, none⟩), .pointer (some ⟨fb, 0, none⟩)], .func (.func 110) #[] #[.pointer (some ⟨sb, 0, none⟩), .pointer (some ⟨fb, 0, none⟩)], .func (.func 112) #[] #[.pointer (some ⟨sb, 0, none⟩), .pointer (some ⟨fb, 0, none⟩)]] 32)
  refine (ctnF_any _ 5 _ _ (by omega) hbk rfl (excG u a) fun w' hb' j hj v hv => ?_).mono fun e w' ⟨he, hb'⟩ => ⟨by rw [he, exc_any], hal.trans (hb'.mono hal.size)⟩
  have hbw := hal.trans (hb'.mono hal.size)
  have hE := h.below hbw
  match j, hj, hv with
  | 0, _, hv => cases hv; exact ex5_imp (impossible_any _ _ _ (hs.below hbw) hok)
  | 1, _, hv => cases hv; exact ex5_1 ((ex1_any hE hok).mono fun e w'' ⟨e1, e2⟩ => ⟨e1, e2 ▸ Below.refl _ _⟩)
  | 2, _, hv => cases hv; exact ex5_2 (ex2_any hE hok)
  | 3, _, hv => cases hv; exact ex5_3 (ex3_any hE hok)
  | 4, _, hv => cases hv; exact ex5_4 (ex4_any hE hok)

set_option maxHeartbeats 4000000 in
set_option maxRecDepth 100000 in
theorem excluded_any (v : Value) (u : SU) (ab : Nat) (a : List Int) (w : World) (h : SupIs w v u) (hok : SUok u) (ha : InU w ab a) :
    Calls Tryz.prog 83 #[v, .func (.func 38) #[] #[.pointer (some ⟨ab, 0, none⟩)]] w fun e w' => e = .returned (.bool (exc u a)) ∧ Below w.heap.size w w' := by
  have h0 := h
  obtain ⟨vh, vb, vw, vs, rfl, -, -, -⟩ := h
  obtain ⟨hE, hal⟩ := env_new h0 ha
  have hw := ways_any hE (h0.below hal) hok
  simp only [World.size_alloc] at hw
  have HW := Lib.hid hw
  have HAL := Lib.hid hal
  clear hw hal hE h0 ha hok
  go_enter Tryz.func83, Tryz.ntmps83
  go_upto_region 2 with fail
  go_wp2_with (go_at_call 114; (with_reducible refine HW.out.mono ?_); rintro e w2 ⟨rfl, hb2⟩; have HB2 := Lib.hid hb2; clear hb2)
  go_ret
  exact ⟨rfl, HAL.out.trans (HB2.out.mono (by omega))⟩

end Go.Proofs.YthclpkhaenaknaaGreatDoor

/- loops: the iterator supports$1. -/
namespace Go.Proofs.YthclpkhaenaknaaGreatDoor
open Go.RowKit
attribute [local go_sem] Oper.semAt_some


set_option maxHeartbeats 1000000 in
theorem sup11_any (S : List Int) (b : Nat) (vs : Value) (x : Int) (w : World) (h : Blk w b [vs] 23) (hS : Ints w vs S) :
    Calls Tryz.prog 68 #[.int .i64 x, .pointer (some ⟨b, 0, none⟩)] w fun e w' => e = .returned (.bool (decide (x ∈ S))) ∧ w = w' := by
  obtain ⟨a4, c4, rfl, -, hl4, -, -⟩ := hS.form
  have k0 := h.cell 0
  have HS := Lib.hid hS
  clear h hS
  go_enter Tryz.func68, Tryz.ntmps68
  go_wp2_with (go_at_call 28; (with_reducible refine (contains_any _ _ x _ HS.out).mono ?_); rintro e w1 ⟨rfl, rfl⟩)
  go_ret
  exact ⟨rfl, rfl⟩

set_option maxHeartbeats 1000000 in
theorem idx_sup (v : Value) (l : List Int) (w : World) (h : Ints w v l) (g : Nat → Bool) (cap : Value)
    (hg : ∀ w', Below w.heap.size w w' → ∀ j, j < l.length → Calls Tryz.prog 68 #[.int .i64 (ix l j), cap] w' fun e w'' => e = .returned (.bool (g j)) ∧ Below w'.heap.size w' w'') :
    Calls Tryz.prog 72 #[v, .func (.func 68) #[] #[cap]] w fun e w' => ∃ r, e = .returned (.int .i64 r) ∧ IxP l.length g r ∧ Below w.heap.size w w' := by
  obtain ⟨a1, c1, rfl, -, hl1, -, hcell⟩ := h.form
  have HG := Lib.hid hg
  clear h hg
  go_enter Tryz.func72, Tryz.ntmps72
  go_wp2
  go_loopw [8] (fun i wx => IxR l.length g w i wx) (fun i _ => l.length - (intOf i).toNat)
  case atStart => exact ⟨0, by omega, rfl, fun j hj => absurd hj (Nat.not_lt_zero _), Below.refl _ _⟩
  case round =>
    obtain ⟨k, hk, rfl, hall, hb⟩ := hrel
    have HA := Lib.hid hall
    clear hall
    by_cases hlt : k < l.length
    · obtain ⟨b, off, rfl, hbl, hc⟩ := hcell (by omega)
      have hk1 := (bcell hb _ _ hbl).trans (hc k hlt)
      clear hc hcell
      cases g1 : g k with
      | true =>
        have HK : Hid (_ = true) := Lib.hid g1
        have HC := Lib.hid (HG.out _ hb k hlt)
        rw [g1] at HC
        clear g1
        go_wp2_with (go_at_call 68; refine (HC.out).mono ?_; rintro e w1 ⟨rfl, hb1⟩)
        go_ret
        exact ⟨_, rfl, .inr ⟨k, hlt, rfl, HK.out, HA.out⟩, bon hb hb1⟩
      | false =>
        have HN := Lib.hid (lt_succ_all HA.out g1)
        have HC := Lib.hid (HG.out _ hb k hlt)
        rw [g1] at HC
        clear g1
        go_wp2_with (go_at_call 68; refine (HC.out).mono ?_; rintro e w1 ⟨rfl, hb1⟩)
        first
          | (go_roundw
             case rel => (exact ⟨k + 1, by omega, by go_num, HN.out, bon hb hb1⟩)
             case measure => (simp [intOf]; omega))
          | (refine ⟨?_, ?_⟩
             · (exact ⟨k + 1, by omega, by go_num, HN.out, bon hb hb1⟩)
             · (simp [intOf]; omega))
    · have HN : Hid (∀ j, j < l.length → g j = false) := Lib.hid (fun j hj => HA.out j (by omega))
      go_wp2
      go_ret
      exact ⟨_, rfl, .inl ⟨rfl, HN.out⟩, hb⟩

set_option maxHeartbeats 1000000 in
theorem ctn_sup (v : Value) (l : List Int) (w : World) (h : Ints w v l) (g : Nat → Bool) (cap : Value)
    (hg : ∀ w', Below w.heap.size w w' → ∀ j, j < l.length → Calls Tryz.prog 68 #[.int .i64 (ix l j), cap] w' fun e w'' => e = .returned (.bool (g j)) ∧ Below w'.heap.size w' w'') :
    Calls Tryz.prog 44 #[v, .func (.func 68) #[] #[cap]] w fun e w' => e = .returned (.bool (anyR l.length g)) ∧ Below w.heap.size w w' := by
  have HI := Lib.hid (idx_sup v l w h g cap hg)
  obtain ⟨a1, c1, rfl, -⟩ := h.form
  clear h hg
  go_enter Tryz.func44, Tryz.ntmps44
  go_wp2_with (go_at_call 72; refine (HI.out).mono ?_; rintro e w1 ⟨r, rfl, hr, hb1⟩; have HR := Lib.hid hr; clear hr)
  go_ret
  exact ⟨ret_bool HR.out.any, hb1⟩

/-- A head of the rule lies in the set. -/
def headIn (S : List Int) (r : GR) : Bool := anyR r.head.length (fun j => decide (ix r.head j ∈ S))

def supAt (p : GP) (S : List Int) (k : Nat) : SU := ⟨ixR p.rules k, bodyI p k, S⟩

/-- The supports among the first k rules. -/
def supsTo (p : GP) (S : List Int) : Nat → List SU
  | 0 => []
  | k + 1 => if headIn S (ixR p.rules k) then supsTo p S k ++ [supAt p S k] else supsTo p S k

theorem supsTo_len (p : GP) (S : List Int) : ∀ k, (supsTo p S k).length ≤ k
  | 0 => by simp [supsTo]
  | k + 1 => by
    have := supsTo_len p S k
    unfold supsTo
    split
    · simp; omega
    · omega

/-- A support as a value of the world in which the program was handed over. -/
abbrev SupV (w : World) := { x : Value × SU // SupIs w x.1 x.2 ∧ SUok x.2 }
def sus {w : World} (l : List (SupV w)) : List SU := l.map (·.1.2)
theorem sus_snoc {w : World} (l : List (SupV w)) (x : SupV w) : sus (l ++ [x]) = sus l ++ [x.1.2] := by simp [sus]
theorem sus_len {w : World} (l : List (SupV w)) : (sus l).length = l.length := by simp [sus]

/-- What the iterator leans on. -/
structure SupSt (wi w : World) (p : GP) (S : List Int) (pb sb : Nat) (vn vs vr vm vset : Value) : Prop where
  below : Below wi.heap.size wi w
  pb : Blk w pb [.int .i64 p.n, vn, vs, vr, vm] 27
  sb : Blk w sb [vset] 23

theorem SupSt.on {wi w w' : World} {p : GP} {S : List Int} {pb sb : Nat} {vn vs vr vm vset : Value} (h : SupSt wi w p S pb sb vn vs vr vm vset) (hb : Below w.heap.size w w') : SupSt wi w' p S pb sb vn vs vr vm vset :=
  ⟨h.below.trans (hb.mono h.below.size), h.pb.below hb, h.sb.below hb⟩

theorem SupSt.lim {wi w0 w w' : World} {p : GP} {S : List Int} {pb sb rb : Nat} {vn vs vr vm vset : Value} (h : SupSt wi w p S pb sb vn vs vr vm vset) (hl : Lim w0.heap.size [rb] w w') (hN : wi.heap.size ≤ w0.heap.size) (hrb : wi.heap.size ≤ rb) (hp : pb < w0.heap.size ∧ pb ≠ rb) (hs : sb < w0.heap.size ∧ sb ≠ rb) : SupSt wi w' p S pb sb vn vs vr vm vset :=
  ⟨h.below.trans ((hl.mono hN (fun i hi _ => hi)).below (fun i hi => by simp only [List.mem_singleton] at hi; omega)), h.pb.same (hl.block _ hp.1 (by simpa using hp.2)), h.sb.same (hl.block _ hs.1 (by simpa using hs.2))⟩

theorem grown_of_below {w w' : World} (h : Below w.heap.size w w') : w.grownBy w' none := ⟨h.os, h.tape, h.output, h.size, fun k hk _ => h.block k hk⟩

theorem AbidesFrom.below {β : Type} {B : Nat} {J : β → World → Prop} (h : AbidesFrom B J) {s : β} {w w' : World} (hs : J s w) (hb : Below w.heap.size w w') : J s w' :=
  h s w w' none hs (grown_of_below hb) (fun r e => by cases e)

end Go.Proofs.YthclpkhaenaknaaGreatDoor
