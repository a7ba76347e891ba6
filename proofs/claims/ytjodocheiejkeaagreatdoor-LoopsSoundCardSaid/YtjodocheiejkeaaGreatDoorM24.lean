/- My texts Lp10, Lv4, Lv5, Lv6, Lv9, merged. -/
import Derived.Test.YtjodocheiejkeaaGreatDoorM07
import Derived.Test.YtjodocheiejkeaaGreatDoorM23
import Derived.Test.YtjodocheiejkeaaGreatDoorM06
import Derived.Test.YtjodocheiejkeaaGreatDoorM22
import Derived.Test.YtjodocheiejkeaaGreatDoorM04
import Derived.Test.YtjodocheiejkeaaGreatDoorM03
import Derived.Test.YtjodocheiejkeaaGreatDoorM00
import Derived.Test.YtjodocheiejkeaaGreatDoorProg
import Derived.WalkKit
import Derived.Lib.Hide
import Derived.Deep.QuietTactic
import Derived.BigQuiet
import Derived.Lib.Bytealg
import Derived.MapKept
import Derived.Maps.OwnSet
import Derived.Maps.OwnOps
import Derived.Test.YtjodocheiejkeaaGreatDoorM02
import Derived.WalkSpells
import Derived.Lib.SliceRun
import Derived.Test.YtjodocheiejkeaaGreatDoorM01
import Derived.Deep.AppendLies
import Derived.Deep.DeepCutAuto
import Derived.RangeFuncNested
import Derived.RangeFuncBound
import Derived.RangeFuncCalls
import Derived.RangeFuncLeaves
import Derived.OwnWalkIn
import Derived.TacticsInMore
import Derived.LoopNIn
import Derived.LoopIn
import Derived.Stop.RegionWithIn
import Derived.Shelf.Abstract
import Derived.Test.YtjodocheiejkeaaGreatDoorM11

namespace Go.Proofs.YtjodocheiejkeaaGreatDoor
open Go.RowKit
theorem supAt_ok {p : GP} (hv : validE p = 0) (S : List Int) {k : Nat} (hk : k < p.rules.length) : SUok (supAt p S k) where
  lits := fun j hj => by
    have h := validP hv
    have h1 := ordered_lit (h.body k hk) (ix_mem hj)
    have := h.n
    show 1 ≤ (ix (ixR p.rules k).body j).natAbs ∧ (ix (ixR p.rules k).body j).natAbs ≤ 1000000
    omega
  wts := fun hs => by
    have h1 := weights_sum ((validP hv).sum k hk hs)
    exact ⟨by exact_mod_cast h1.1, h1.2.1, h1.2.2⟩
  bound := rule_bound (ruleE_at hv hk)
  head := fun j hj => by
    have h := validP hv
    have h1 := inc_pos (h.head k hk) hj
    have := h.n
    show 1 ≤ ix (ixR p.rules k).head j ∧ ix (ixR p.rules k).head j ≤ 1000000
    omega
  b := by
    have h := validP hv
    have h1 := h.n
    have h2 := h.rules
    show 1 ≤ bodyI p k ∧ bodyI p k ≤ 1000000
    unfold bodyI
    rw [if_neg (by omega)]
    omega
  hlen := by
    have h := validP hv
    show (ixR p.rules k).head.length ≤ 1000000
    rcases Nat.eq_zero_or_pos (ixR p.rules k).head.length with h0 | h0
    · omega
    · have h1 := inc_ge (h.head k hk) ((ixR p.rules k).head.length - 1) (by omega)
      have h2 := inc_pos (h.head k hk) (show (ixR p.rules k).head.length - 1 < (ixR p.rules k).head.length by omega)
      have := h.n
      omega
def unfB (p : GP) (a S : List Int) : Bool := decide (validE p = 0) && (setB' p.n S && allExc p S a)
set_option maxHeartbeats 4000000 in
set_option maxRecDepth 100000 in
theorem unfounded_any (vp va vset : Value) (p : GP) (a S : List Int) (w : World) (hP : ProgIs w vp p) (hA : Bytes8 w va a) (hS : Ints w vset S) :
    Calls Tryz.prog 16 #[vp, va, vset] w fun e w' => e = .returned (.bool (unfB p a S)) ∧ Below w.heap.size w w' := by
  have hP0 := hP
  obtain ⟨vn, vs, vr, vm, rfl, hPS⟩ := hP
  obtain ⟨a1, c1, rfl, -, hl1, -, -⟩ := hPS.rules.form
  obtain ⟨a4, c4, rfl, -, hl4, -, -⟩ := hS.form
  obtain ⟨a9, n9, c9, rfl⟩ : ∃ a9 n9 c9, va = .slice a9 n9 c9 := by obtain ⟨⟨x, y, e, -⟩, -⟩ := hA; exact ⟨_, _, _, e⟩
  have hal : Below w.heap.size w ((w.alloc (.cells #[.int .i64 p.n, vn, vs, .slice a1 p.rules.length c1, vm] 27)).alloc (.cells #[.slice a9 n9 c9] 39)) := bal (bal (Below.refl _ _) _) _
  have hb1 := (Blk.new w [.int .i64 p.n, vn, vs, .slice a1 p.rules.length c1, vm] 27).alloc (.cells #[.slice a9 n9 c9] 39)
  have hb2 := Blk.new2 w (.cells #[.int .i64 p.n, vn, vs, .slice a1 p.rules.length c1, vm] 27) [.slice a9 n9 c9] 39
  have HP := Lib.hid (hP0.below hal)
  have HS := Lib.hid (hS.below hal)
  have HU : Hid (InU _ (w.heap.size + 1) a) := Lib.hid ⟨_, hb2, hA.below hal⟩
  have HAL := Lib.hid hal
  have HBK := Lib.hid hb1
  clear hP0 hPS hS hA hal hb1 hb2
  go_enter Tryz.func16, Tryz.ntmps16
  go_upto_region 1 with fail
  have kx := HBK.out.cell
  generalize (w.alloc (.cells #[.int .i64 p.n, vn, vs, .slice a1 p.rules.length c1, vm] 27)).alloc (.cells #[.slice a9 n9 c9] 39) = W at *
  have HF : Hid (unfB p a S = (decide (validE p = 0) && (setB' p.n S && allExc p S a))) := Lib.hid rfl
  by_cases hv : validE p = 0
  · have HV := Lib.hid hv
    have HOK : Hid (∀ k, k < p.rules.length → SUok (supAt p S k)) := Lib.hid (fun k hk => supAt_ok hv S hk)
    cases h2 : setB' p.n S with
    | false =>
      rw [h2, Bool.false_and, Bool.and_false] at HF
      have HI := Lib.hid h2
      clear h2 hv
      go_wp2_with (first
        | (go_at_call 22; (with_reducible refine (valid_any _ p W HP.out).mono ?_); rintro e w1 ⟨he, hb1⟩; rw [HV.out] at he; subst he; have HB1 := Lib.hid hb1; have kx1 := fun o => (bcell hb1 _ o HBK.out.lt).trans (HBK.out.cell o); clear hb1)
        | (go_at_call 46; (with_reducible refine (isSet_any _ _ p S _ (HP.out.below HB1.out) (HS.out.below HB1.out)).mono ?_); rintro e w2 ⟨he, hb2⟩; rw [HI.out] at he; subst he; have HB2 := Lib.hid (bon HB1.out hb2); clear hb2))
      go_ret
      exact ⟨ret_bool HF.out.symm, HAL.out.trans (HB2.out.mono HAL.out.size)⟩
    | true =>
      rw [h2, Bool.true_and, decide_eq_true hv, Bool.true_and] at HF
      have HI := Lib.hid h2
      clear h2 hv
      go_wp2_with (first
        | (go_at_call 22; (with_reducible refine (valid_any _ p W HP.out).mono ?_); rintro e w1 ⟨he, hb1⟩; rw [HV.out] at he; subst he; have HB1 := Lib.hid hb1; have kx1 := fun o => (bcell hb1 _ o HBK.out.lt).trans (HBK.out.cell o); clear hb1)
        | (go_at_call 46; (with_reducible refine (isSet_any _ _ p S _ (HP.out.below HB1.out) (HS.out.below HB1.out)).mono ?_); rintro e w2 ⟨he, hb2⟩; rw [HI.out] at he; subst he; have HB2 := Lib.hid (bon HB1.out hb2); have kx2 := fun o => (bcell HB2.out _ o HBK.out.lt).trans (HBK.out.cell o); clear hb2)
        | (go_at_call 47; (with_reducible refine (all_any p S a _ _ _ _ (HP.out.below HB2.out) (HS.out.below HB2.out) (HU.out.below HB2.out) HOK.out).mono ?_); rintro e w3 ⟨rfl, hb3⟩; have HB3 := Lib.hid (bon HB2.out hb3); clear hb3))
      go_ret
      exact ⟨ret_bool HF.out.symm, HAL.out.trans (HB3.out.mono HAL.out.size)⟩
  · rw [decide_eq_false hv, Bool.false_and] at HF
    go_wp2_with (go_at_call 22; (with_reducible refine (valid_any _ p W HP.out).mono ?_); rintro e w1 ⟨rfl, hb1⟩; have HB1 := Lib.hid hb1; clear hb1)
    go_ret
    exact ⟨ret_bool HF.out.symm, HAL.out.trans (HB1.out.mono HAL.out.size)⟩
def inB (L : List Int) (l : Int) : Bool := decide (l ∈ L)
set_option maxHeartbeats 1000000 in
theorem inV_any (l : Int) (ab : Nat) (a : List Int) (w : World) (h : InV w ab a) (_hl : 1 ≤ l.natAbs ∧ l.natAbs ≤ 1000000) :
    Calls Tryz.prog 54 #[.int .i64 l, .pointer (some ⟨ab, 0, none⟩)] w fun e w' => e = .returned (.bool (inB a l)) ∧ w = w' := by
  obtain ⟨vl, vk, bd, h1, h2⟩ := h
  have k0 := h1.cell 0
  have H2 := Lib.hid h2
  obtain ⟨a9, c9, rfl, -⟩ := h2.form
  clear h1 h2
  go_enter Tryz.func54, Tryz.ntmps54
  go_wp2_with (go_at_call 55; (with_reducible refine (contains_any _ a l _ H2.out).mono ?_); rintro e w1 ⟨rfl, rfl⟩)
  go_ret
  exact ⟨rfl, rfl⟩
section
variable {w : World} {sb fb ab : Nat} {u : SU} {a : List Int}
set_option maxHeartbeats 1000000 in
theorem neg_inV (h : EnvUV w sb fb ab u a) (x : Int) (hx : 1 ≤ x ∧ x ≤ 1000000) :
    Calls Tryz.prog 131 #[.int .i64 x, .pointer (some ⟨fb, 0, none⟩)] w fun e w' => e = .returned (.bool (inB a (-x))) ∧ w = w' := by
  have kf := h.fn.cell 0
  have HI := Lib.hid (inV_any (-x) ab a w h.asg (by omega))
  clear h
  go_enter Tryz.func131, Tryz.ntmps131
  go_wp2_with (go_at_call 54; (with_reducible refine (HI.out).mono ?_); rintro e w1 ⟨rfl, rfl⟩)
  go_ret
  exact ⟨rfl, rfl⟩
set_option maxHeartbeats 1000000 in
theorem not_inV (h : EnvUV w sb fb ab u a) (x : Int) (hx : 1 ≤ x.natAbs ∧ x.natAbs ≤ 1000000) :
    Calls Tryz.prog 134 #[.int .i64 x, .pointer (some ⟨fb, 0, none⟩)] w fun e w' => e = .returned (.bool (!inB a x)) ∧ w = w' := by
  have kf := h.fn.cell 0
  have HI := Lib.hid (inV_any x ab a w h.asg hx)
  clear h
  go_enter Tryz.func134, Tryz.ntmps134
  go_wp2_with (go_at_call 54; (with_reducible refine (HI.out).mono ?_); rintro e w1 ⟨rfl, rfl⟩)
  go_ret
  exact ⟨rfl, rfl⟩
set_option maxHeartbeats 1000000 in
theorem ex1_anyV (h : EnvUV w sb fb ab u a) (hok : SUok u) :
    Calls Tryz.prog 128 #[.pointer (some ⟨fb, 0, none⟩), .pointer (some ⟨sb, 0, none⟩)] w fun e w' => e = .returned (.bool (inB a u.b)) ∧ w = w' := by
  have kf := h.fn.cell 0
  obtain ⟨vh, vb, vw, vs, h0, -, -, -⟩ := h.sup
  have k6 := h0.cell 6
  have HI := Lib.hid (inV_any u.b ab a w h.asg (by have := hok.b; omega))
  clear h h0 hok
  go_enter Tryz.func128, Tryz.ntmps128
  go_wp2_with (go_at_call 54; (with_reducible refine (HI.out).mono ?_); rintro e w1 ⟨rfl, rfl⟩)
  go_ret
  exact ⟨rfl, rfl⟩
end
set_option maxHeartbeats 1000000 in
theorem idx_inUV (v : Value) (l : List Int) (w : World) (h : Ints w v l) (g : Nat → Bool) (cap : Value)
    (hg : ∀ w', Below w.heap.size w w' → ∀ j, j < l.length → Calls Tryz.prog 54 #[.int .i64 (ix l j), cap] w' fun e w'' => e = .returned (.bool (g j)) ∧ Below w'.heap.size w' w'') :
    Calls Tryz.prog 83 #[v, .func (.func 54) #[] #[cap]] w fun e w' => ∃ r, e = .returned (.int .i64 r) ∧ IxP l.length g r ∧ Below w.heap.size w w' := by
  obtain ⟨a1, c1, rfl, -, hl1, -, hcell⟩ := h.form
  have HG := Lib.hid hg
  clear h hg
  go_enter Tryz.func83, Tryz.ntmps83
  go_wp2
  go_loopw [8] (fun i wx => IxR l.length g w i wx) (fun i _ => l.length - (intOf i).toNat)
  case atStart => exact ⟨0, by omega, rfl, fun j hj => absurd hj (Nat.not_lt_zero _), Below.refl _ _⟩
  case round =>
    obtain ⟨k, hk, rfl, hall, hb⟩ := hrel
    have HA := Lib.hid hall
    clear hall
    by_cases hlt : k < l.length
    · obtain ⟨b, off, rfl, hbl, hc⟩ := hcell (by omega)
      have hk1 := (bcell hb _ _ hbl).trans (hc k hlt)
      clear hc hcell
      cases g1 : g k with
      | true =>
        have HK : Hid (_ = true) := Lib.hid g1
        have HC := Lib.hid (HG.out _ hb k hlt)
        rw [g1] at HC
        clear g1
        go_wp2_with (go_at_call 54; refine (HC.out).mono ?_; rintro e w1 ⟨rfl, hb1⟩)
        go_ret
        exact ⟨_, rfl, .inr ⟨k, hlt, rfl, HK.out, HA.out⟩, bon hb hb1⟩
      | false =>
        have HN := Lib.hid (lt_succ_all HA.out g1)
        have HC := Lib.hid (HG.out _ hb k hlt)
        rw [g1] at HC
        clear g1
        go_wp2_with (go_at_call 54; refine (HC.out).mono ?_; rintro e w1 ⟨rfl, hb1⟩)
        first
          | (go_roundw
             case rel => (exact ⟨k + 1, by omega, by go_num, HN.out, bon hb hb1⟩)
             case measure => (simp [intOf]; omega))
          | (refine ⟨?_, ?_⟩
             · (exact ⟨k + 1, by omega, by go_num, HN.out, bon hb hb1⟩)
             · (simp [intOf]; omega))
    · have HN : Hid (∀ j, j < l.length → g j = false) := Lib.hid (fun j hj => HA.out j (by omega))
      go_wp2
      go_ret
      exact ⟨_, rfl, .inl ⟨rfl, HN.out⟩, hb⟩
set_option maxHeartbeats 1000000 in
theorem ctn_inUV (v : Value) (l : List Int) (w : World) (h : Ints w v l) (g : Nat → Bool) (cap : Value)
    (hg : ∀ w', Below w.heap.size w w' → ∀ j, j < l.length → Calls Tryz.prog 54 #[.int .i64 (ix l j), cap] w' fun e w'' => e = .returned (.bool (g j)) ∧ Below w'.heap.size w' w'') :
    Calls Tryz.prog 42 #[v, .func (.func 54) #[] #[cap]] w fun e w' => e = .returned (.bool (anyR l.length g)) ∧ Below w.heap.size w w' := by
  have HI := Lib.hid (idx_inUV v l w h g cap hg)
  obtain ⟨a1, c1, rfl, -⟩ := h.form
  clear h hg
  go_enter Tryz.func42, Tryz.ntmps42
  go_wp2_with (go_at_call 83; refine (HI.out).mono ?_; rintro e w1 ⟨r, rfl, hr, hb1⟩; have HR := Lib.hid hr; clear hr)
  go_ret
  exact ⟨ret_bool HR.out.any, hb1⟩
set_option maxHeartbeats 1000000 in
theorem idx_negV (v : Value) (l : List Int) (w : World) (h : Ints w v l) (g : Nat → Bool) (cap : Value)
    (hg : ∀ w', Below w.heap.size w w' → ∀ j, j < l.length → Calls Tryz.prog 131 #[.int .i64 (ix l j), cap] w' fun e w'' => e = .returned (.bool (g j)) ∧ Below w'.heap.size w' w'') :
    Calls Tryz.prog 83 #[v, .func (.func 131) #[] #[cap]] w fun e w' => ∃ r, e = .returned (.int .i64 r) ∧ IxP l.length g r ∧ Below w.heap.size w w' := by
  obtain ⟨a1, c1, rfl, -, hl1, -, hcell⟩ := h.form
  have HG := Lib.hid hg
  clear h hg
  go_enter Tryz.func83, Tryz.ntmps83
  go_wp2
  go_loopw [8] (fun i wx => IxR l.length g w i wx) (fun i _ => l.length - (intOf i).toNat)
  case atStart => exact ⟨0, by omega, rfl, fun j hj => absurd hj (Nat.not_lt_zero _), Below.refl _ _⟩
  case round =>
    obtain ⟨k, hk, rfl, hall, hb⟩ := hrel
    have HA := Lib.hid hall
    clear hall
    by_cases hlt : k < l.length
    · obtain ⟨b, off, rfl, hbl, hc⟩ := hcell (by omega)
      have hk1 := (bcell hb _ _ hbl).trans (hc k hlt)
      clear hc hcell
      cases g1 : g k with
      | true =>
        have HK : Hid (_ = true) := Lib.hid g1
        have HC := Lib.hid (HG.out _ hb k hlt)
        rw [g1] at HC
        clear g1
        go_wp2_with (go_at_call 131; refine (HC.out).mono ?_; rintro e w1 ⟨rfl, hb1⟩)
        go_ret
        exact ⟨_, rfl, .inr ⟨k, hlt, rfl, HK.out, HA.out⟩, bon hb hb1⟩
      | false =>
        have HN := Lib.hid (lt_succ_all HA.out g1)
        have HC := Lib.hid (HG.out _ hb k hlt)
        rw [g1] at HC
        clear g1
        go_wp2_with (go_at_call 131; refine (HC.out).mono ?_; rintro e w1 ⟨rfl, hb1⟩)
        first
          | (go_roundw
             case rel => (exact ⟨k + 1, by omega, by go_num, HN.out, bon hb hb1⟩)
             case measure => (simp [intOf]; omega))
          | (refine ⟨?_, ?_⟩
             · (exact ⟨k + 1, by omega, by go_num, HN.out, bon hb hb1⟩)
             · (simp [intOf]; omega))
    · have HN : Hid (∀ j, j < l.length → g j = false) := Lib.hid (fun j hj => HA.out j (by omega))
      go_wp2
      go_ret
      exact ⟨_, rfl, .inl ⟨rfl, HN.out⟩, hb⟩
set_option maxHeartbeats 1000000 in
theorem ctn_negV (v : Value) (l : List Int) (w : World) (h : Ints w v l) (g : Nat → Bool) (cap : Value)
    (hg : ∀ w', Below w.heap.size w w' → ∀ j, j < l.length → Calls Tryz.prog 131 #[.int .i64 (ix l j), cap] w' fun e w'' => e = .returned (.bool (g j)) ∧ Below w'.heap.size w' w'') :
    Calls Tryz.prog 42 #[v, .func (.func 131) #[] #[cap]] w fun e w' => e = .returned (.bool (anyR l.length g)) ∧ Below w.heap.size w w' := by
  have HI := Lib.hid (idx_negV v l w h g cap hg)
  obtain ⟨a1, c1, rfl, -⟩ := h.form
  clear h hg
  go_enter Tryz.func42, Tryz.ntmps42
  go_wp2_with (go_at_call 83; refine (HI.out).mono ?_; rintro e w1 ⟨r, rfl, hr, hb1⟩; have HR := Lib.hid hr; clear hr)
  go_ret
  exact ⟨ret_bool HR.out.any, hb1⟩
set_option maxHeartbeats 4000000 in
set_option maxRecDepth 100000 in
theorem wgt_notV (v : Value) (u : SU) (w : World) (h : SupIs w v u) (hok : SUok u) (hs : u.r.sum = true) (g : Int → Bool) (cap : Value)
    (hg : ∀ w', Below w.heap.size w w' → ∀ l : Int, 1 ≤ l.natAbs → l.natAbs ≤ 1000000 → Calls Tryz.prog 134 #[.int .i64 l, cap] w' fun e w'' => e = .returned (.bool (g l)) ∧ Below w'.heap.size w' w'') :
    Calls Tryz.prog 133 #[v, .func (.func 134) #[] #[cap]] w fun e w' => e = .returned (.int .i64 (wgt u g u.r.body.length)) ∧ Below w.heap.size w w' := by
  have h0 := h
  obtain ⟨vh, vb, vw, vs, rfl, hsl, hS, hb⟩ := h
  have hal := bal (Below.refl w.heap.size w) (.cells #[.bool u.r.choice, vh, .bool u.r.sum, .int .i64 u.r.bound, vb, vw, .int .i64 u.b, vs] 128)
  obtain ⟨a1, c1, rfl, -, hl1, -, -⟩ := hsl.head.form
  obtain ⟨a2, c2, rfl, -, hl2, -, hcb⟩ := hsl.body.form
  obtain ⟨a3, c3, rfl, -, hl3, -, hcw⟩ := hsl.wts.form
  obtain ⟨a4, c4, rfl, -, hl4, -, -⟩ := hS.form
  have H0 := Lib.hid h0
  have HG := Lib.hid hg
  have HBK := Lib.hid (Blk.new w [.bool u.r.choice, .slice a1 u.r.head.length c1, .bool u.r.sum, .int .i64 u.r.bound, .slice a2 u.r.body.length c2, .slice a3 u.r.w.length c3, .int .i64 u.b, .slice a4 u.S.length c4] 128)
  have HCB := Lib.hid hcb
  have HCW := Lib.hid hcw
  have HOK := Lib.hid hok
  have HWS := Lib.hid (hok.wts hs)
  have hwl : u.r.w.length ≤ u.r.body.length ∧ u.r.body.length ≤ u.r.w.length := by have := (hok.wts hs).1; omega
  have HSM := Lib.hid hs
  clear h0 hsl hS hb hg hcb hcw hok hs
  go_enter Tryz.func133, Tryz.ntmps133
  go_upto_region 1 with fail
  have HAL := Lib.hid hal
  clear hal
  generalize w.alloc (.cells #[.bool u.r.choice, .slice a1 u.r.head.length c1, .bool u.r.sum, .int .i64 u.r.bound, .slice a2 u.r.body.length c2, .slice a3 u.r.w.length c3, .int .i64 u.b, .slice a4 u.S.length c4] 128) = W0 at *
  have kx := HBK.out.cell
  have hzW : w.heap.size < W0.heap.size := HBK.out.lt
  go_wp2_with fail
  clear kx
  go_loopw [5, 12] (fun s i wx => WgRel u g W0 s i wx) (fun _ i _ => u.r.body.length - (intOf i).toNat)
  case atStart => exact ⟨0, Nat.zero_le _, rfl, rfl, Below.refl _ _⟩
  case round =>
    obtain ⟨k, hk, rfl, rfl, hbx⟩ := hrel
    have HBX := Lib.hid hbx
    have hbw : Below w.heap.size w wr := HAL.out.trans (hbx.mono (by omega))
    have HBW := Lib.hid hbw
    have kx := fun o => (bcell hbx _ o HBK.out.lt).trans (HBK.out.cell o)
    have hz := hbx.size
    have hle := wgt_le HOK.out HSM.out g k hk
    have hsm := HWS.out.2.2 k (by omega)
    clear hbx
    by_cases hlt : k < u.r.body.length
    · obtain ⟨bb, offb, rfl, hbb, hcb⟩ := HCB.out (by omega)
      have kb := (bcell hbw _ _ hbb).trans (hcb k hlt)
      obtain ⟨bw, offw, rfl, hbw2, hcw⟩ := HCW.out (by omega)
      have hcw0 := hcw k (by omega)
      have kw := (bcell hbw _ _ hbw2).trans hcw0
      have hle2 := wgt_le HOK.out HSM.out g (k + 1) hlt
      have hsm2 := HWS.out.2.2 (k + 1) (by omega)
      have hl := HOK.out.lits k hlt
      have HIN := Lib.hid (internal_any _ u (ix u.r.body k) wr (H0.out.below hbw))
      have HST : Hid (wgt u g (k + 1) = wgt u g k + if !intB u.S (ix u.r.body k) && g (ix u.r.body k) then ix u.r.w k else 0) := Lib.hid rfl
      have hw1 := HWS.out.2.1 k (by omega)
      clear hcb hcw hbw
      cases hi : intB u.S (ix u.r.body k) with
      | true =>
        rw [hi] at HIN HST
        have HS2 : Hid (wgt u g (k + 1) = wgt u g k) := Lib.hid (by rw [HST.out]; simp)
        go_wp2_with (go_at_call 127; (with_reducible refine (HIN.out).mono ?_); rintro e w1 ⟨rfl, hb1⟩; have HB1 := Lib.hid (bon HBX.out hb1); clear hb1)
        first
          | (go_roundw
             case rel => (exact ⟨k + 1, by omega, by go_num, by rw [HS2.out], HB1.out⟩)
             case measure => (simp [intOf]; omega))
          | (refine ⟨?_, ?_⟩
             · (exact ⟨k + 1, by omega, by go_num, by rw [HS2.out], HB1.out⟩)
             · (simp [intOf]; omega))
      | false =>
        rw [hi] at HIN HST
        cases hgl : g (ix u.r.body k) with
        | false =>
          rw [hgl] at HST
          have HS2 : Hid (wgt u g (k + 1) = wgt u g k) := Lib.hid (by rw [HST.out]; simp)
          go_wp2_with (first | (go_at_call 134; (with_reducible refine (HG.out _ (bon HBW.out hb1) _ hl.1 hl.2).mono ?_); rintro e w2 ⟨e2, hb2⟩; rw [hgl] at e2; subst e2; have HB2 := Lib.hid (bon (bon HBX.out hb1) hb2)) | (go_at_call 127; (with_reducible refine (HIN.out).mono ?_); rintro e w1 ⟨rfl, hb1⟩; have kx1 := fun o => (bcell (bon HBX.out hb1) _ o HBK.out.lt).trans (HBK.out.cell o); have hz1 := hb1.size))
          first
            | (go_roundw
               case rel => (exact ⟨k + 1, by omega, by go_num, by rw [HS2.out], HB2.out⟩)
               case measure => (simp [intOf]; omega))
            | (refine ⟨?_, ?_⟩
               · (exact ⟨k + 1, by omega, by go_num, by rw [HS2.out], HB2.out⟩)
               · (simp [intOf]; omega))
        | true =>
          rw [hgl] at HST
          have HS2 : Hid (wgt u g (k + 1) = wgt u g k + ix u.r.w k) := Lib.hid (by rw [HST.out]; simp)
          have hs2 : wgt u g k + ix u.r.w k ≤ 1048576 := by rw [HS2.out] at hle2; omega
          go_wp2_with (first | (go_at_call 134; (with_reducible refine (HG.out _ (bon HBW.out hb1) _ hl.1 hl.2).mono ?_); rintro e w2 ⟨e2, hb2⟩; rw [hgl] at e2; subst e2; have HB2 := Lib.hid (bon (bon HBX.out hb1) hb2); have kw2 := (bcell (bon (bon HBW.out hb1) hb2) _ _ hbw2).trans hcw0; have kx2 := fun o => (bcell (bon (bon HBX.out hb1) hb2) _ o HBK.out.lt).trans (HBK.out.cell o); have hz2 := hb2.size) | (go_at_call 127; (with_reducible refine (HIN.out).mono ?_); rintro e w1 ⟨rfl, hb1⟩; have kx1 := fun o => (bcell (bon HBX.out hb1) _ o HBK.out.lt).trans (HBK.out.cell o); have hz1 := hb1.size))
          first
            | (go_roundw
               case rel => (exact ⟨k + 1, by omega, by go_num, by rw [HS2.out], HB2.out⟩)
               case measure => (simp [intOf]; omega))
            | (refine ⟨?_, ?_⟩
               · (exact ⟨k + 1, by omega, by go_num, by rw [HS2.out], HB2.out⟩)
               · (simp [intOf]; omega))
    · obtain rfl : k = u.r.body.length := by omega
      go_wp2_with fail
      go_ret
      exact ⟨rfl, HAL.out.trans (HBX.out.mono (by omega))⟩
def ex2V (u : SU) (a : List Int) : Bool := !u.r.sum && anyR u.r.body.length (fun j => inB a (ix u.r.body j))
def ex3V (u : SU) (a : List Int) : Bool := anyR (oth u).length (fun j => inB a (-(ix (oth u) j)))
def ex4V (u : SU) (a : List Int) : Bool := u.r.sum && decide (wgt u (fun l => !inB a l) u.r.body.length < u.r.bound)
section
variable {w : World} {sb fb ab : Nat} {u : SU} {a : List Int}
set_option maxHeartbeats 1000000 in
theorem ex2_anyV (h : EnvUV w sb fb ab u a) (hok : SUok u) :
    Calls Tryz.prog 129 #[.pointer (some ⟨sb, 0, none⟩), .pointer (some ⟨fb, 0, none⟩)] w fun e w' => e = .returned (.bool (ex2V u a)) ∧ Below w.heap.size w w' := by
  have kf := h.fn.cell 0
  obtain ⟨vh, vb, vw, vs, h0, hsl, -, -⟩ := h.sup
  obtain ⟨a2, c2, rfl, -, hl2, -, -⟩ := hsl.body.form
  have ks := h0.cell
  have HA := Lib.hid h.asg
  have HB := Lib.hid hsl.body
  have HOK := Lib.hid hok
  clear h h0 hsl hok
  cases hs : u.r.sum with
  | true =>
    have HF : Hid (ex2V u a = false) := Lib.hid (by unfold ex2V; rw [hs]; rfl)
    go_enter Tryz.func129, Tryz.ntmps129
    go_wp2
    go_ret
    exact ⟨ret_bool HF.out.symm, Below.refl _ _⟩
  | false =>
    have HF : Hid (ex2V u a = anyR u.r.body.length (fun j => inB a (ix u.r.body j))) := Lib.hid (by unfold ex2V; rw [hs]; rfl)
    go_enter Tryz.func129, Tryz.ntmps129
    go_wp2_with (go_at_call 42; (with_reducible refine (ctn_inUV _ u.r.body w HB.out (fun j => inB a (ix u.r.body j)) _ (fun w' hb' j hj => (inV_any _ ab a w' (HA.out.below hb') (HOK.out.lits j hj)).mono fun e w'' ⟨e1, e2⟩ => ⟨e1, e2 ▸ Below.refl _ _⟩)).mono ?_); rintro e w2 ⟨rfl, hb2⟩; have HB2 := Lib.hid hb2; clear hb2)
    go_ret
    exact ⟨ret_bool HF.out.symm, HB2.out⟩
set_option maxHeartbeats 1000000 in
theorem ex3_anyV (h : EnvUV w sb fb ab u a) (hok : SUok u) :
    Calls Tryz.prog 130 #[.pointer (some ⟨sb, 0, none⟩), .pointer (some ⟨fb, 0, none⟩)] w fun e w' => e = .returned (.bool (ex3V u a)) ∧ Below w.heap.size w w' := by
  have HE := Lib.hid h
  obtain ⟨vh, vb, vw, vs, h0, hsl, hS, hb⟩ := h.sup
  have ks := h0.cell
  have HSU : Hid (SupIs w (.agg #[.bool u.r.choice, vh, .bool u.r.sum, .int .i64 u.r.bound, vb, vw, .int .i64 u.b, vs]) u) := Lib.hid ⟨_, _, _, _, rfl, hsl, hS, hb⟩
  have HOK := Lib.hid hok
  have hol : (oth u).length * 8 ≤ 140737488351232 := by
    have h1 := hok.hlen
    have h2 := keepF_le (fun x => decide (x ∈ u.S)) u.r.head u.r.head.length
    unfold oth
    split
    · simp
    · omega
  clear h h0 hsl hS hok
  go_enter Tryz.func130, Tryz.ntmps130
  go_wp2_with (first
    | (go_at_call 42; (with_reducible refine (ctn_negV _ (oth u) _ HO.out (fun j => inB a (-(ix (oth u) j))) _ (fun w' hb' j hj => (neg_inV (HE.out.below (bon HB1.out hb')) _ (oth_mem HOK.out hj)).mono fun e w'' ⟨e1, e2⟩ => ⟨e1, e2 ▸ Below.refl _ _⟩)).mono ?_); rintro e w2 ⟨rfl, hb2⟩; have HB2 := Lib.hid (bon HB1.out hb2); clear hb2)
    | (go_at_call 123; (with_reducible refine (others_any _ u _ HSU.out).mono ?_); rintro e w1 ⟨a5, n5, c5, rfl, hq1, hb1⟩; have HO := Lib.hid (hq1.ints hol); have HB1 := Lib.hid hb1; have kf1 := (bcell hb1 _ 0 HE.out.fn.lt).trans (HE.out.fn.cell 0); clear hq1 hb1))
  go_ret
  exact ⟨rfl, HB2.out⟩
end
section
variable {w : World} {sb fb ab : Nat} {u : SU} {a : List Int}
set_option maxHeartbeats 4000000 in
set_option maxRecDepth 100000 in
theorem ex4_anyV (h : EnvUV w sb fb ab u a) (hok : SUok u) :
    Calls Tryz.prog 132 #[.pointer (some ⟨sb, 0, none⟩), .pointer (some ⟨fb, 0, none⟩)] w fun e w' => e = .returned (.bool (ex4V u a)) ∧ Below w.heap.size w w' := by
  have HE := Lib.hid h
  obtain ⟨vh, vb, vw, vs, h0, hsl, hS, hb⟩ := h.sup
  have kx : ∀ e : Ext w, ∀ o, e.world.cell? ⟨sb, o, none⟩ = [Value.bool u.r.choice, vh, .bool u.r.sum, .int .i64 u.r.bound, vb, vw, .int .i64 u.b, vs][o]? := fun e o => (bcell e.below _ o h0.lt).trans (h0.cell o)
  have ks := h0.cell
  have HSU : Hid (SupIs w (.agg #[.bool u.r.choice, vh, .bool u.r.sum, .int .i64 u.r.bound, vb, vw, .int .i64 u.b, vs]) u) := Lib.hid ⟨_, _, _, _, rfl, hsl, hS, hb⟩
  have HOK := Lib.hid hok
  have hbd := hok.bound
  clear h h0 hsl hS hok
  cases hs : u.r.sum with
  | true =>
    have HF : Hid (ex4V u a = decide (wgt u (fun l => !inB a l) u.r.body.length < u.r.bound)) := Lib.hid (by unfold ex4V; rw [hs, Bool.true_and])
    have HSM := Lib.hid hs
    have hwl := wgt_le HOK.out HSM.out (fun l => !inB a l) u.r.body.length (Nat.le_refl _)
    have hsm := (HOK.out.wts HSM.out).2.2 u.r.body.length (by have := (HOK.out.wts HSM.out).1; omega)
    rw [hs] at HSU
    simp only [hs] at kx
    have HW : Hid (∀ e : Ext w, Calls Tryz.prog 133 #[.agg #[.bool u.r.choice, vh, .bool true, .int .i64 u.r.bound, vb, vw, .int .i64 u.b, vs], .func (.func 134) #[] #[.pointer (some ⟨fb, 0, none⟩)]] e.world fun e2 w' => e2 = .returned (.int .i64 (wgt u (fun l => !inB a l) u.r.body.length)) ∧ Below e.world.heap.size e.world w') := Lib.hid (fun e => wgt_notV _ u _ (HSU.out.below e.below) HOK.out HSM.out (fun l => !inB a l) _ (fun w' hb' l h1 h2 => (not_inV ((HE.out.below e.below).below hb') l ⟨h1, h2⟩).mono fun e w'' ⟨e1, e2⟩ => ⟨e1, e2 ▸ Below.refl _ _⟩))
    clear hs ks
    go_enter Tryz.func132, Tryz.ntmps132
    go_upto_region 1 with fail
    refine wp_region_ext (by kernel_rfl) (by kernel_rfl) ?_
    repeat (go_big_quiet_step ((go_at_call 133; exact Calls.ext_of (HW.out _))))
    refine wpQuiet_nil ?_
    intro w9 hw'
    obtain ⟨e9, he9⟩ := hw'
    have hb9 := e9.below
    rw [← he9] at hb9
    clear he9 e9
    try dsimp only
    go_wp2
    go_ret
    exact ⟨ret_bool HF.out.symm, hb9⟩
  | false =>
    have HF : Hid (ex4V u a = false) := Lib.hid (by unfold ex4V; rw [hs, Bool.false_and])
    simp only [hs] at ks
    simp only [hs] at kx
    clear hs ks
    go_enter Tryz.func132, Tryz.ntmps132
    go_upto_region 1 with fail
    refine wp_region_ext (by kernel_rfl) (by kernel_rfl) ?_
    repeat (go_big_quiet_step (fail))
    refine wpQuiet_nil ?_
    intro w9 hw'
    obtain ⟨e9, he9⟩ := hw'
    have hb9 := e9.below
    rw [← he9] at hb9
    clear he9 e9
    try dsimp only
    go_wp2
    go_ret
    exact ⟨ret_bool HF.out.symm, hb9⟩
end
theorem ex5v_imp {x : Value} {w : World} {b : Bool} (h : Calls Tryz.prog 122 #[x] w fun e w' => e = .returned (.bool b) ∧ Below w.heap.size w w') :
    Calls Tryz.prog 136 #[.func (.func 122) #[x] #[]] w fun e w' => e = .returned (.bool b) ∧ Below w.heap.size w w' := by
  have H := Lib.hid h
  clear h
  go_enter Tryz.func136, Tryz.ntmps136
  go_wp2_with (go_at_call 122; (with_reducible refine (H.out).mono ?_); rintro e w1 ⟨rfl, hb1⟩; have HB1 := Lib.hid hb1; clear hb1)
  go_ret
  exact ⟨rfl, HB1.out⟩
theorem ex5v_1 {x y : Value} {w : World} {b : Bool} (h : Calls Tryz.prog 128 #[x, y] w fun e w' => e = .returned (.bool b) ∧ Below w.heap.size w w') :
    Calls Tryz.prog 136 #[.func (.func 128) #[] #[x, y]] w fun e w' => e = .returned (.bool b) ∧ Below w.heap.size w w' := by
  have H := Lib.hid h
  clear h
  go_enter Tryz.func136, Tryz.ntmps136
  go_wp2_with (go_at_call 128; (with_reducible refine (H.out).mono ?_); rintro e w1 ⟨rfl, hb1⟩; have HB1 := Lib.hid hb1; clear hb1)
  go_ret
  exact ⟨rfl, HB1.out⟩
theorem ex5v_2 {x y : Value} {w : World} {b : Bool} (h : Calls Tryz.prog 129 #[x, y] w fun e w' => e = .returned (.bool b) ∧ Below w.heap.size w w') :
    Calls Tryz.prog 136 #[.func (.func 129) #[] #[x, y]] w fun e w' => e = .returned (.bool b) ∧ Below w.heap.size w w' := by
  have H := Lib.hid h
  clear h
  go_enter Tryz.func136, Tryz.ntmps136
  go_wp2_with (go_at_call 129; (with_reducible refine (H.out).mono ?_); rintro e w1 ⟨rfl, hb1⟩; have HB1 := Lib.hid hb1; clear hb1)
  go_ret
  exact ⟨rfl, HB1.out⟩
theorem ex5v_3 {x y : Value} {w : World} {b : Bool} (h : Calls Tryz.prog 130 #[x, y] w fun e w' => e = .returned (.bool b) ∧ Below w.heap.size w w') :
    Calls Tryz.prog 136 #[.func (.func 130) #[] #[x, y]] w fun e w' => e = .returned (.bool b) ∧ Below w.heap.size w w' := by
  have H := Lib.hid h
  clear h
  go_enter Tryz.func136, Tryz.ntmps136
  go_wp2_with (go_at_call 130; (with_reducible refine (H.out).mono ?_); rintro e w1 ⟨rfl, hb1⟩; have HB1 := Lib.hid hb1; clear hb1)
  go_ret
  exact ⟨rfl, HB1.out⟩
theorem ex5v_4 {x y : Value} {w : World} {b : Bool} (h : Calls Tryz.prog 132 #[x, y] w fun e w' => e = .returned (.bool b) ∧ Below w.heap.size w w') :
    Calls Tryz.prog 136 #[.func (.func 132) #[] #[x, y]] w fun e w' => e = .returned (.bool b) ∧ Below w.heap.size w w' := by
  have H := Lib.hid h
  clear h
  go_enter Tryz.func136, Tryz.ntmps136
  go_wp2_with (go_at_call 132; (with_reducible refine (H.out).mono ?_); rintro e w1 ⟨rfl, hb1⟩; have HB1 := Lib.hid hb1; clear hb1)
  go_ret
  exact ⟨rfl, HB1.out⟩
set_option maxHeartbeats 1000000 in
theorem idxF_anyV (p n : Nat) (fs : List Value) (w : World) (hn : n ≤ 1000) (h : Blk w p fs 29) (hl : fs.length = n) (g : Nat → Bool)
    (hg : ∀ w', Below w.heap.size w w' → ∀ j, j < n → ∀ v, fs[j]? = some v → Calls Tryz.prog 136 #[v] w' fun e w'' => e = .returned (.bool (g j)) ∧ Below w'.heap.size w' w'') :
    Calls Tryz.prog 167 #[.slice (some ⟨p, 0, none⟩) n n, .func (.func 136) #[] #[]] w fun e w' => ∃ r, e = .returned (.int .i64 r) ∧ IxP n g r ∧ Below w.heap.size w w' := by
  have HG := Lib.hid hg
  have HBK := Lib.hid h
  clear h hg
  go_enter Tryz.func167, Tryz.ntmps167
  go_wp2
  go_loopw [8] (fun i wx => IxR n g w i wx) (fun i _ => n - (intOf i).toNat)
  case atStart => exact ⟨0, by omega, rfl, fun j hj => absurd hj (Nat.not_lt_zero _), Below.refl _ _⟩
  case round =>
    obtain ⟨k, hk, rfl, hall, hb⟩ := hrel
    have HA := Lib.hid hall
    clear hall
    by_cases hlt : k < n
    · obtain ⟨v, hv⟩ : ∃ v, fs[k]? = some v := ⟨fs[k]'(by omega), List.getElem?_eq_getElem (by omega)⟩
      have hk1 : wr.cell? ⟨p, k, none⟩ = some v := (bcell hb _ _ HBK.out.lt).trans ((HBK.out.cell _).trans hv)
      have HC := Lib.hid (HG.out _ hb k hlt v hv)
      clear hv
      cases g1 : g k with
      | true =>
        have HK : Hid (_ = true) := Lib.hid g1
        rw [g1] at HC
        clear g1
        go_wp2_with (go_at_call 136; refine (HC.out).mono ?_; rintro e w1 ⟨rfl, hb1⟩)
        go_ret
        exact ⟨_, rfl, .inr ⟨k, hlt, rfl, HK.out, HA.out⟩, bon hb hb1⟩
      | false =>
        have HN := Lib.hid (lt_succ_all HA.out g1)
        rw [g1] at HC
        clear g1
        go_wp2_with (go_at_call 136; refine (HC.out).mono ?_; rintro e w1 ⟨rfl, hb1⟩)
        first
          | (go_roundw
             case rel => (exact ⟨k + 1, by omega, by go_num, HN.out, bon hb hb1⟩)
             case measure => (simp [intOf]; omega))
          | (refine ⟨?_, ?_⟩
             · (exact ⟨k + 1, by omega, by go_num, HN.out, bon hb hb1⟩)
             · (simp [intOf]; omega))
    · have HN : Hid (∀ j, j < n → g j = false) := Lib.hid (fun j hj => HA.out j (by omega))
      go_wp2
      go_ret
      exact ⟨_, rfl, .inl ⟨rfl, HN.out⟩, hb⟩
set_option maxHeartbeats 1000000 in
theorem ctnF_anyV (p n : Nat) (fs : List Value) (w : World) (hn : n ≤ 1000) (h : Blk w p fs 29) (hl : fs.length = n) (g : Nat → Bool)
    (hg : ∀ w', Below w.heap.size w w' → ∀ j, j < n → ∀ v, fs[j]? = some v → Calls Tryz.prog 136 #[v] w' fun e w'' => e = .returned (.bool (g j)) ∧ Below w'.heap.size w' w'') :
    Calls Tryz.prog 135 #[.slice (some ⟨p, 0, none⟩) n n, .func (.func 136) #[] #[]] w fun e w' => e = .returned (.bool (anyR n g)) ∧ Below w.heap.size w w' := by
  have HI := Lib.hid (idxF_anyV p n fs w hn h hl g hg)
  clear h hg
  go_enter Tryz.func135, Tryz.ntmps135
  go_wp2_with (go_at_call 167; refine (HI.out).mono ?_; rintro e w1 ⟨r, rfl, hr, hb1⟩; have HR := Lib.hid hr; clear hr)
  go_ret
  exact ⟨ret_bool HR.out.any, hb1⟩
def excV (u : SU) (a : List Int) : Bool := impB u || inB a u.b || ex2V u a || ex3V u a || ex4V u a
def excGV (u : SU) (a : List Int) : Nat → Bool
  | 0 => impB u
  | 1 => inB a u.b
  | 2 => ex2V u a
  | 3 => ex3V u a
  | _ => ex4V u a
theorem exc_anyV (u : SU) (a : List Int) : anyR 5 (excGV u a) = excV u a := by
  have e : List.range 5 = [0, 1, 2, 3, 4] := rfl
  unfold anyR
  rw [e]
  simp [excGV, excV, Bool.or_assoc]
theorem env_newV {w : World} {vh vb vw vs : Value} {u : SU} {ab : Nat} {a : List Int} (h : SupIs w (.agg #[.bool u.r.choice, vh, .bool u.r.sum, .int .i64 u.r.bound, vb, vw, .int .i64 u.b, vs]) u) (ha : InV w ab a) :
    EnvUV ((w.alloc (.cells #[.bool u.r.choice, vh, .bool u.r.sum, .int .i64 u.r.bound, vb, vw, .int .i64 u.b, vs] 128)).alloc (.cells #[.func (.func 54) #[] #[.pointer (some ⟨ab, 0, none⟩)]] 77)) w.heap.size (w.heap.size + 1) ab u a ∧
    Below w.heap.size w ((w.alloc (.cells #[.bool u.r.choice, vh, .bool u.r.sum, .int .i64 u.r.bound, vb, vw, .int .i64 u.b, vs] 128)).alloc (.cells #[.func (.func 54) #[] #[.pointer (some ⟨ab, 0, none⟩)]] 77)) := by
  obtain ⟨_, _, _, _, e, hsl, hS, hb⟩ := h
  simp only [Value.agg.injEq, Array.mk.injEq, List.cons.injEq, and_true] at e
  obtain ⟨-, rfl, -, -, rfl, rfl, -, rfl⟩ := e
  have hal := bal (Below.refl w.heap.size w) (.cells #[.bool u.r.choice, vh, .bool u.r.sum, .int .i64 u.r.bound, vb, vw, .int .i64 u.b, vs] 128)
  have hbk := Blk.new w [.bool u.r.choice, vh, .bool u.r.sum, .int .i64 u.r.bound, vb, vw, .int .i64 u.b, vs] 128
  have hsup : SupB _ w.heap.size u := ⟨vh, vb, vw, vs, hbk, hsl.below hal, hS.below hal, hb⟩
  have hz : (w.alloc (.cells #[.bool u.r.choice, vh, .bool u.r.sum, .int .i64 u.r.bound, vb, vw, .int .i64 u.b, vs] 128)).heap.size = w.heap.size + 1 := World.size_alloc ..
  have ha1 := ha.below hal
  generalize w.alloc (.cells #[.bool u.r.choice, vh, .bool u.r.sum, .int .i64 u.r.bound, vb, vw, .int .i64 u.b, vs] 128) = W1 at *
  have hal1 := bal (Below.refl W1.heap.size W1) (.cells #[.func (.func 54) #[] #[.pointer (some ⟨ab, 0, none⟩)]] 77)
  have hb1 := Blk.new W1 [.func (.func 54) #[] #[.pointer (some ⟨ab, 0, none⟩)]] 77
  rw [hz] at hb1
  exact ⟨⟨hsup.below hal1, hb1, ha1.below hal1⟩, hal.trans (hal1.mono (by omega))⟩
theorem ways_anyV {W : World} {x : Value} {sb fb ab : Nat} {u : SU} {a : List Int} (h : EnvUV W sb fb ab u a) (hs : SupIs W x u) (hok : SUok u) :
    Calls Tryz.prog 135 #[.slice (some ⟨W.heap.size, 0, none⟩) 5 5, .func (.func 136) #[] #[]] (W.alloc (.cells #[.func (.func 122) #[x] #[], .func (.func 128) #[] #[.pointer (some ⟨fb, 0, none⟩), .pointer (some ⟨sb, 0, none⟩)], .func (.func 129) #[] #[.pointer (some ⟨sb, 0, none⟩), .pointer (some ⟨fb, 0, none⟩)], .func (.func 130) #[] #[.pointer (some ⟨sb, 0, none⟩), .pointer (some ⟨fb, 0, none⟩)], .func (.func 132) #[] #[.pointer (some ⟨sb, 0, none⟩), .pointer (some ⟨fb, 0, none⟩)]] 29)) fun e w' => e = .returned (.bool (excV u a)) ∧ Below W.heap.size W w' := by
  have hbk := Blk.new W [.func (.func 122) #[x] #[], .func (.func 128) #[] #[.pointer (some ⟨fb, 0, none⟩), .pointer (some ⟨sb, 0, none⟩)], .func (.func 129) #[] #[.pointer (some ⟨sb, 0, none⟩), .pointer (some ⟨fb, 0, none⟩)], .func (.func 130) #[] #[.pointer (some ⟨sb, 0, none⟩), .pointer (some ⟨fb, 0, none⟩)], .func (.func 132) #[] #[.pointer (some ⟨sb, 0, none⟩), .pointer (some ⟨fb, 0, none⟩)]] 29
  have hal := bal (Below.refl W.heap.size W) (.cells #[.func (.func 122) #[x] #[], .func (.func 128) #[] #[.pointer (some ⟨fb, 0, none⟩), .pointer (some ⟨sb, 0, none⟩)], .func (.func 129) #[] #[.pointer (some ⟨sb, 0, none⟩), .pointer (some ⟨fb, 0, none⟩)], .func (.func 130) #[] #[.pointer (some ⟨sb, 0, none⟩), .pointer (some ⟨fb, 0, none⟩)], .func (.func 132) #[] #[.pointer (some ⟨sb, 0, none⟩), .pointer (some ⟨fb, 0, none⟩)]] 29)
  refine (ctnF_anyV _ 5 _ _ (by omega) hbk rfl (excGV u a) fun w' hb' j hj v hv => ?_).mono fun e w' ⟨he, hb'⟩ => ⟨by rw [he, exc_anyV], hal.trans (hb'.mono hal.size)⟩
  have hbw := hal.trans (hb'.mono hal.size)
  have hE := h.below hbw
  match j, hj, hv with
  | 0, _, hv => cases hv; exact ex5v_imp (impossible_any _ _ _ (hs.below hbw) hok)
  | 1, _, hv => cases hv; exact ex5v_1 ((ex1_anyV hE hok).mono fun e w'' ⟨e1, e2⟩ => ⟨e1, e2 ▸ Below.refl _ _⟩)
  | 2, _, hv => cases hv; exact ex5v_2 (ex2_anyV hE hok)
  | 3, _, hv => cases hv; exact ex5v_3 (ex3_anyV hE hok)
  | 4, _, hv => cases hv; exact ex5v_4 (ex4_anyV hE hok)
set_option maxHeartbeats 4000000 in
set_option maxRecDepth 100000 in
theorem excluded_anyV (v : Value) (u : SU) (ab : Nat) (a : List Int) (w : World) (h : SupIs w v u) (hok : SUok u) (ha : InV w ab a) :
    Calls Tryz.prog 86 #[v, .func (.func 54) #[] #[.pointer (some ⟨ab, 0, none⟩)]] w fun e w' => e = .returned (.bool (excV u a)) ∧ Below w.heap.size w w' := by
  have h0 := h
  obtain ⟨vh, vb, vw, vs, rfl, -, -, -⟩ := h
  obtain ⟨hE, hal⟩ := env_newV h0 ha
  have hw := ways_anyV hE (h0.below hal) hok
  simp only [World.size_alloc] at hw
  have HW := Lib.hid hw
  have HAL := Lib.hid hal
  clear hw hal hE h0 ha hok
  go_enter Tryz.func86, Tryz.ntmps86
  go_upto_region 2 with fail
  go_wp2_with (go_at_call 135; (with_reducible refine HW.out.mono ?_); rintro e w2 ⟨rfl, hb2⟩; have HB2 := Lib.hid hb2; clear hb2)
  go_ret
  exact ⟨rfl, HAL.out.trans (HB2.out.mono (by omega))⟩
end Go.Proofs.YtjodocheiejkeaaGreatDoor
namespace Go.Proofs.YtjodocheiejkeaaGreatDoor
open Go.RowKit Go.Shelf
attribute [local go_sem] Oper.semAt_some
def allExcV (p : GP) (S a : List Int) : Bool := (supsTo p S p.rules.length).all fun u => excV u a
theorem sus_memV {w : World} {l : List (SupV w)} {p : GP} {S a : List Int} (h : sus l = supsTo p S p.rules.length) : (∀ u ∈ sus l, excV u a = true) → allExcV p S a = true := by
  intro h2
  unfold allExcV
  rw [← h, List.all_eq_true]
  exact h2
theorem sus_someV {w : World} {l : List (SupV w)} {p : GP} {S a : List Int} {k : Nat} (hk : k ≤ p.rules.length) (h : sus l = supsTo p S k) {u : SU} (hu : u ∈ sus l) (he : excV u a = false) : allExcV p S a = false := by
  unfold allExcV
  rw [List.all_eq_false]
  exact ⟨u, supsTo_sub p S _ k hk (h ▸ hu), by simp [he]⟩
set_option maxHeartbeats 4000000 in
set_option maxRecDepth 100000 in
theorem all_anyV (p : GP) (S a : List Int) (ab : Nat) (v vset : Value) (w : World) (hP : ProgIs w v p) (hS : Ints w vset S) (ha : InV w ab a) (hok : ∀ k, k < p.rules.length → SUok (supAt p S k)) :
    Calls Tryz.prog 47 #[v, vset, .func (.func 54) #[] #[.pointer (some ⟨ab, 0, none⟩)]] w fun e w' => e = .returned (.bool (allExcV p S a)) ∧ Below w.heap.size w w' := by
  have hP0 := Lib.hid hP
  obtain ⟨vn, vs, vr, vm, rfl, hPS⟩ := hP
  obtain ⟨a1, c1, rfl, -, hl1, -, -⟩ := hPS.rules.form
  obtain ⟨a4, c4, rfl, -, hl4, -, -⟩ := hS.form
  have HS := Lib.hid hS
  have HA := Lib.hid ha
  have HOK := Lib.hid hok
  clear hPS hS ha hok
  refine (callsIn_wide (n := 6)).1 ?_
  refine callsIn_of_wp_marks Tryz.func47 rfl trivial ?_ rfl
  simp only [Tryz.ntmps47, List.size_toArray, List.length_cons, List.length_nil, Nat.reduceAdd, Nat.reduceSub, Array.replicate_succ, Array.replicate_zero, List.push_toArray, List.append_toArray, List.nil_append, List.cons_append]
  have bI := (Blk.new2 w (.cells #[.int .i64 p.n, vn, vs, .slice a1 p.rules.length c1, vm] 27) [.func (.func 54) #[] #[.pointer (some ⟨ab, 0, none⟩)]] 77).alloc (.cells #[.bool false] 4)
  have bR := Blk.new ((w.alloc (.cells #[.int .i64 p.n, vn, vs, .slice a1 p.rules.length c1, vm] 27)).alloc (.cells #[.func (.func 54) #[] #[.pointer (some ⟨ab, 0, none⟩)]] 77)) [.bool false] 4
  have hb0 : Below w.heap.size w (((w.alloc (.cells #[.int .i64 p.n, vn, vs, .slice a1 p.rules.length c1, vm] 27)).alloc (.cells #[.func (.func 54) #[] #[.pointer (some ⟨ab, 0, none⟩)]] 77)).alloc (.cells #[.bool false] 4)) := bal (bal (bal (Below.refl _ _) _) _) _
  have BI := Lib.hid bI
  have BR := Lib.hid bR
  have HB0 := Lib.hid hb0
  clear bI bR hb0
  gi_wp2_with (refine ⟨trivial, ?_⟩; gi_at_call 84; refine (callsIn_wide.2 (supports_any _ _ _ _ _ _ _ _ _ _ _)).mono ?_; rintro e w1 ⟨rfl, hb1, hp1, hs1⟩)
  have bI := BI.out.below hb1
  have bR := BR.out.below hb1
  have hbw : Below w.heap.size w w1 := bon HB0.out hb1
  simp only [World.size_alloc] at hp1 hs1 bR
  clear hb1 BI BR HB0
  have hz := hs1.lt
  refine wpIn_rangeFunc_ownH rfl (by omega) (gf := 119) (lb := #[.pointer (some ⟨w.heap.size + 1 + 1 + 1, 0, none⟩), .pointer (some ⟨w.heap.size + 1 + 1 + 1 + 1, 0, none⟩)]) rfl trivial (enters_of Tryz.func119 (by kernel_rfl) rfl)
    (sups_stops p S w w1 vn vs (.slice a1 p.rules.length c1) vm (.slice a4 S.length c4) hP0.out HS.out (w.heap.size + 1 + 1) _ _ ⟨hbw, hp1, hs1⟩ (by omega) ⟨by omega, by omega⟩ HOK.out 5 (by omega))
    (fun h k => h.trans k) (fun W l o o' hl h hc hw => .of_below (belowK_b (w := w1) (Nat.le_refl _) W l o o' hl h hc hw) (Nat.le_refl _)) (Below.refl _ _) (fun _ => rfl)
    (fun pre W => (∀ u ∈ sus pre, excV u a = true) ∧ Below w1.heap.size w1 W)
    (fun c pre W => (Blk W (w.heap.size + 1 + 1) [.bool false] 4 ∧ (c = .ret ∧ ∃ u ∈ sus pre, excV u a = false)) ∧ Below w.heap.size w W)
    (OwnFrom.and (ownFrom_pure _ _) (ownFrom_below (Nat.le_refl _) (Nat.le_refl _)))
    (fun c => OwnFrom.and (OwnFrom.and (Own.from (blk_own _ _ _) _) (ownFrom_pure _ _)) (ownFrom_below (Nat.le_refl _) (by omega)))
    ⟨by intro u hu; simp [sus] at hu, Below.refl _ _⟩
    (fun x a' W => ∃ Bx vh vb vw vs9, x.1.1 = .agg #[.bool x.1.2.r.choice, vh, .bool x.1.2.r.sum, .int .i64 x.1.2.r.bound, vb, vw, .int .i64 x.1.2.b, vs9] ∧ Blk W Bx [.bool x.1.2.r.choice, vh, .bool x.1.2.r.sum, .int .i64 x.1.2.r.bound, vb, vw, .int .i64 x.1.2.b, vs9] 128 ∧ a' = { tmps := #[.agg #[.int .i64 p.n, vn, vs, .slice a1 p.rules.length c1, vm], .slice a4 S.length c4, .func (.func 54) #[] #[.pointer (some ⟨ab, 0, none⟩)], .pointer (some ⟨w.heap.size, 0, none⟩), undef, .pointer (some ⟨w.heap.size + 1, 0, none⟩), .pointer (some ⟨w.heap.size + 1 + 1, 0, none⟩), .pointer (some ⟨Bx, 0, none⟩), .agg #[.int .i64 p.n, vn, vs, .slice a1 p.rules.length c1, vm], .slice a4 S.length c4, .func (.func 119) #[] #[.pointer (some ⟨w.heap.size + 1 + 1 + 1, 0, none⟩), .pointer (some ⟨w.heap.size + 1 + 1 + 1 + 1, 0, none⟩)], x.1.1, undef, undef, undef, undef], defers := [] })
    (fun x a' _ X Y row hs hg hr => by obtain ⟨Bx, vh, vb, vw, vs9, h2, h3, h4⟩ := hs; exact ⟨Bx, vh, vb, vw, vs9, h2, blk_own Bx _ _ () X Y row h3 hg (fun r e => (hr r e).2), h4⟩)
    ?assign ?body ?done ?stop
  case assign =>
    rintro l pre x W K ⟨hall, hB⟩ hK
    obtain ⟨vh, vb, vw, vs9, hx, ⟨x1, x2, x3, rfl⟩, ⟨x4, x5, x6, rfl⟩, ⟨x7, x8, x9, rfl⟩, ⟨y1, y2, y3, rfl⟩⟩ := x.form
    have HX := Lib.hid hx
    have hbn := Blk.new W [.bool x.1.2.r.choice, (.slice x1 x2 x3), .bool x.1.2.r.sum, .int .i64 x.1.2.r.bound, (.slice x4 x5 x6), (.slice x7 x8 x9), .int .i64 x.1.2.b, (.slice y1 y2 y3)] 128
    have HBN := Lib.hid hbn
    dsimp only
    rw [hx]
    clear hx hbn
    gi_wp2
    exact hK _ _ ((KeepsOthers.alloc _ _).from _) (.of_below (bal (Below.refl _ _) _) hB.size) ⟨hall, hB.alloc hB.size _⟩ ⟨W.heap.size, _, _, _, _, HX.out, HBN.out, by rw [HX.out]⟩
  case body =>
    rintro l pre x a' W hl ⟨r, hr⟩ ⟨hall, hB⟩ ⟨Bx, vh, vb, vw, vs9, hx, bX, rfl⟩ hlt
    have kx := bX.cell
    have ki := (bI.below hB).cell 0
    have bRW := bR.below hB
    have hBw : Below w.heap.size w W := bon hbw hB
    have HE : Hid (Calls Tryz.prog 86 #[.agg #[.bool x.1.2.r.choice, vh, .bool x.1.2.r.sum, .int .i64 x.1.2.r.bound, vb, vw, .int .i64 x.1.2.b, vs9], .func (.func 54) #[] #[.pointer (some ⟨ab, 0, none⟩)]] W fun e w' => e = .returned (.bool (excV x.1.2 a)) ∧ Below W.heap.size W w') := Lib.hid (excluded_anyV _ x.1.2 ab a W (hx ▸ x.2.1.below hBw) x.2.2 (HA.out.below hBw))
    have HBX := Lib.hid hB
    have HBW := Lib.hid hBw
    have HALL := Lib.hid hall
    clear hB hBw hall
    cases he : excV x.1.2 a with
    | true =>
      have HEX : Hid (_ = true) := Lib.hid he
      rw [he] at HE
      clear he
      gi_wp2_with (refine ⟨trivial, ?_⟩; gi_at_call 86; refine (CallsIn.inRound l (callsIn_wide.2 HE.out)).mono ?_; rintro e w2 ⟨rfl, hb2⟩)
      refine ⟨keeps_below hb2, .of_below hb2 HBX.out.size, fun u hu => ?_, bon HBX.out hb2⟩
      rw [sus_snoc] at hu
      rcases List.mem_append.1 hu with h | h
      · exact HALL.out u h
      · obtain rfl := List.mem_singleton.1 h
        exact HEX.out
    | false =>
      have HEX : Hid (_ = false) := Lib.hid he
      rw [he] at HE
      clear he
      gi_wp2_with (refine ⟨trivial, ?_⟩; gi_at_call 86; refine (CallsIn.inRound l (callsIn_wide.2 HE.out)).mono ?_; rintro e w2 ⟨rfl, hb2⟩; have kc := (bRW.below hb2).cell 0; have kf := (bRW.below hb2).free 0)
      exact ⟨(keeps_below hb2).trans ((KeepsOthers.setCell _ _ _).from _), ⟨(bRW.below hb2).set 0 _, rfl, x.1.2, by rw [sus_snoc]; simp, HEX.out⟩, (bon HBW.out hb2).setCell (p := ⟨w.heap.size + 1 + 1, 0, none⟩) (by simp; omega) _⟩
  case done =>
    rintro D xs W hD hS ⟨hall, hB⟩ hK
    have bRW := bR.below hB
    have kc := bRW.cell 0
    have kf := bRW.free 0
    have hBw : Below w.heap.size w W := bon hbw hB
    gi_wp2
    have hK' := (KeepsOthers.setCell W ⟨w.heap.size + 1 + 1, 0, none⟩ (.bool true)).same D _ hK rfl
    refine ⟨by simp, .inl ⟨_, _, rfl, run_takeDeferred hK', ?_⟩⟩
    have hc5 := cell_kept (World.cell?_setCell_same' W ⟨w.heap.size + 1 + 1, 0, none⟩ (.bool true) (by rw [kc]; rfl)) (grownBy_putObj' _ D (.deferred none)) (fun r e => by cases e; exact ⟨_, hK', rfl⟩)
    refine ⟨.bool true, ?_, by rw [sus_memV hS hall], (hBw.setCell (p := ⟨w.heap.size + 1 + 1, 0, none⟩) (by simp; omega) _).trans (belowK_b (w := w) (Nat.le_refl _) _ D _ _ (by omega) hK' rfl rfl)⟩
    simp [results, Tryz.f47, go_sem, hc5]
  case stop =>
    rintro D c pre W hD ⟨k, hk, hS⟩ ⟨⟨bRW, rfl, u, hu, he⟩, hB⟩ hK
    gi_wp2
    refine ⟨by simp, .inl ⟨_, _, rfl, run_takeDeferred hK, ?_⟩⟩
    have hc5 := cell_kept (bRW.cell 0) (grownBy_putObj' _ D (.deferred none)) (fun r e => by cases e; exact ⟨_, hK, rfl⟩)
    refine ⟨.bool false, ?_, by rw [sus_someV hk hS hu he], hB.trans (belowK_b (w := w) (Nat.le_refl _) W D _ _ (by omega) hK rfl rfl)⟩
    simp [results, Tryz.f47, go_sem, hc5]
end Go.Proofs.YtjodocheiejkeaaGreatDoor
