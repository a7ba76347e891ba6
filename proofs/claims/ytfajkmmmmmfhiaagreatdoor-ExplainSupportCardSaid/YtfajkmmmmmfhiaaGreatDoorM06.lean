/- My texts Cm1, Lp2, Lp3, Lp4, Lp7, Lp9, Lp10, Cm3, Rounds1, RoundsU, Rounds2, Least, SrcSt, Entry, Try2, merged. -/
import Derived.Test.YtfajkmmmmmfhiaaGreatDoorM05
import Derived.Test.YtfajkmmmmmfhiaaGreatDoorM04
import Derived.Test.YtfajkmmmmmfhiaaGreatDoorM03
import Derived.Test.YtfajkmmmmmfhiaaGreatDoorM00
import Derived.Test.YtfajkmmmmmfhiaaGreatDoorProg
import Derived.WalkKit
import Derived.Lib.Hide
import Derived.Deep.QuietTactic
import Derived.BigQuiet
import Derived.WalkSpells
import Derived.Lib.SliceRun
import Derived.MapKept
import Derived.Maps.OwnSet
import Derived.Maps.OwnOps
import Derived.Test.YtfajkmmmmmfhiaaGreatDoorM02
import Derived.Test.YtfajkmmmmmfhiaaGreatDoorM01
import Derived.Deep.AppendLies
import Derived.Lib.Bytealg
import Derived.Deep.DeepCutAuto
import Derived.Laws.EntriesVeiled
import Derived.Deep.RegionWith
import Derived.RangeFuncNested
import Derived.RangeFuncBound
import Derived.RangeFuncCalls
import Derived.RangeFuncLeaves
import Derived.OwnWalkIn
import Derived.TacticsInMore
import Derived.LoopNIn
import Derived.LoopIn
import Derived.Stop.RegionWithIn
import Derived.Shelf.Abstract
import Derived.Deep.OwnRows
import Derived.Deep.LoopGhost

namespace Go.Proofs.YtfajkmmmmmfhiaaGreatDoor
open Go.RowKit
theorem bodyw_any (x : Int) (w : World) : Calls Tryz.prog 77 #[.int .i64 x] w fun e w' => e = .returned (.bool (decide (x < 0) || decide (1048576 < x))) ∧ w = w' := by
  by_cases h : x < 0
  · go_enter Tryz.func77, Tryz.ntmps77
    go_wp2
    go_ret
    exact ⟨ret_bool (by rw [decide_eq_true h]; rfl), rfl⟩
  · by_cases h2 : 1048576 < x
    · go_enter Tryz.func77, Tryz.ntmps77
      go_wp2
      go_ret
      exact ⟨ret_bool (by first | (simp; done) | simp [h2]), rfl⟩
    · go_enter Tryz.func77, Tryz.ntmps77
      go_wp2
      go_ret
      exact ⟨ret_bool (by simp; omega), rfl⟩
set_option maxHeartbeats 1000000 in
theorem idx_bw (v : Value) (l : List Int) (w : World) (h : Ints w v l) (g : Nat → Bool) 
    (hg : ∀ w', Below w.heap.size w w' → ∀ j, j < l.length → Calls Tryz.prog 77 #[.int .i64 (ix l j)] w' fun e w'' => e = .returned (.bool (g j)) ∧ Below w'.heap.size w' w'') :
    Calls Tryz.prog 108 #[v, .func (.func 77) #[] #[]] w fun e w' => ∃ r, e = .returned (.int .i64 r) ∧ IxP l.length g r ∧ Below w.heap.size w w' := by
  obtain ⟨a1, c1, rfl, -, hl1, -, hcell⟩ := h.form
  have HG := Lib.hid hg
  clear h hg
  go_enter Tryz.func108, Tryz.ntmps108
  go_wp2
  go_loopw [8] (fun i wx => IxR l.length g w i wx) (fun i _ => l.length - (intOf i).toNat)
  case atStart => exact ⟨0, by omega, rfl, fun j hj => absurd hj (Nat.not_lt_zero _), Below.refl _ _⟩
  case round =>
    obtain ⟨k, hk, rfl, hall, hb⟩ := hrel
    have HA := Lib.hid hall
    clear hall
    by_cases hlt : k < l.length
    · obtain ⟨b, off, rfl, hbl, hc⟩ := hcell (by omega)
      have hk1 := (bcell hb _ _ hbl).trans (hc k hlt)
      clear hc hcell
      cases g1 : g k with
      | true =>
        have HK : Hid (_ = true) := Lib.hid g1
        have HC := Lib.hid (HG.out _ hb k hlt)
        rw [g1] at HC
        clear g1
        go_wp2_with (go_at_call 77; refine (HC.out).mono ?_; rintro e w1 ⟨rfl, hb1⟩)
        go_ret
        exact ⟨_, rfl, .inr ⟨k, hlt, rfl, HK.out, HA.out⟩, bon hb hb1⟩
      | false =>
        have HN := Lib.hid (lt_succ_all HA.out g1)
        have HC := Lib.hid (HG.out _ hb k hlt)
        rw [g1] at HC
        clear g1
        go_wp2_with (go_at_call 77; refine (HC.out).mono ?_; rintro e w1 ⟨rfl, hb1⟩)
        first
          | (go_roundw
             case rel => (exact ⟨k + 1, by omega, by go_num, HN.out, bon hb hb1⟩)
             case measure => (simp [intOf]; omega))
          | (refine ⟨?_, ?_⟩
             · (exact ⟨k + 1, by omega, by go_num, HN.out, bon hb hb1⟩)
             · (simp [intOf]; omega))
    · have HN : Hid (∀ j, j < l.length → g j = false) := Lib.hid (fun j hj => HA.out j (by omega))
      go_wp2
      go_ret
      exact ⟨_, rfl, .inl ⟨rfl, HN.out⟩, hb⟩
set_option maxHeartbeats 1000000 in
theorem ctn_bw (v : Value) (l : List Int) (w : World) (h : Ints w v l) (g : Nat → Bool) 
    (hg : ∀ w', Below w.heap.size w w' → ∀ j, j < l.length → Calls Tryz.prog 77 #[.int .i64 (ix l j)] w' fun e w'' => e = .returned (.bool (g j)) ∧ Below w'.heap.size w' w'') :
    Calls Tryz.prog 76 #[v, .func (.func 77) #[] #[]] w fun e w' => e = .returned (.bool (anyR l.length g)) ∧ Below w.heap.size w w' := by
  have HI := Lib.hid (idx_bw v l w h g  hg)
  obtain ⟨a1, c1, rfl, -⟩ := h.form
  clear h hg
  go_enter Tryz.func76, Tryz.ntmps76
  go_wp2_with (go_at_call 108; refine (HI.out).mono ?_; rintro e w1 ⟨r, rfl, hr, hb1⟩; have HR := Lib.hid hr; clear hr)
  go_ret
  exact ⟨ret_bool HR.out.any, hb1⟩
set_option maxHeartbeats 4000000 in
theorem rBody_any (v vm : Value) (r : GR) (m : List Int) (w : World) (hr : RuleIs w v r) (hm : Ints w vm m) (hml : m.length ≤ 1000000000) {n : Int} (hV : BodyV r n) :
    Calls Tryz.prog 32 #[v, vm] w fun e w' => e = .returned (.bool (bodyT r m)) ∧ Below w.heap.size w w' := by
  obtain ⟨vh, vb, vw, rfl, hsl⟩ := hr
  have hal := bal (Below.refl w.heap.size w) (.cells #[.bool r.choice, vh, .bool r.sum, .int .i64 r.bound, vb, vw] 60)
  have HBX := Lib.hid (Blk.new w [.bool r.choice, vh, .bool r.sum, .int .i64 r.bound, vb, vw] 60)
  obtain ⟨a1, c1, rfl, -, hl1, -, -⟩ := hsl.head.form
  obtain ⟨a2, c2, rfl, -⟩ := hsl.body.form
  obtain ⟨a3, c3, rfl, -⟩ := hsl.wts.form
  obtain ⟨am, cm, rfl, -⟩ := hm.form
  have HR : Hid (RuleIs (w.alloc (.cells #[.bool r.choice, .slice a1 r.head.length c1, .bool r.sum, .int .i64 r.bound, .slice a2 r.body.length c2, .slice a3 r.w.length c3] 60)) (.agg #[.bool r.choice, .slice a1 r.head.length c1, .bool r.sum, .int .i64 r.bound, .slice a2 r.body.length c2, .slice a3 r.w.length c3]) r) := Lib.hid ⟨_, _, _, rfl, hsl.below hal⟩
  have HB := Lib.hid (hsl.body.below hal)
  have HW := Lib.hid (hsl.wts.below hal)
  have HM := Lib.hid (hm.below hal)
  have HML := Lib.hid hml
  have HOK := Lib.hid hV.ok
  have hlen := hV.ok.len
  have hlen' : decide ((8000 : Int) < r.body.length) = false := decide_eq_false (by omega)
  have H0 : Hid (decide ((0 : Int) ∈ r.body) = false) := Lib.hid (decide_eq_false fun h => (ordered_lit hV.ord h).1 rfl)
  have H1 : Hid (decide ((-9223372036854775808 : Int) ∈ r.body) = false) := Lib.hid (decide_eq_false fun h => by have := ordered_lit hV.ord h; have := hV.rng; omega)
  have kx := HBX.out.cell
  have hlt := HBX.out.lt
  have HAL := Lib.hid hal
  have HVW := Lib.hid hV
  clear hsl hm hml hV hal
  cases hs : r.sum with
  | false =>
    rw [hs] at HR HB HW HM HBX HAL kx hlt
    clear hs
    go_enter Tryz.func32, Tryz.ntmps32
    go_upto_region 5 with (go_at_call 57; (with_reducible refine (contains_any _ r.body _ _ HB.out).mono ?_); rintro e w1 ⟨e1, rfl⟩; (first | rw [H0.out] at e1 | rw [H1.out] at e1); subst e1)
    generalize w.alloc (.cells #[.bool r.choice, .slice a1 r.head.length c1, .bool false, .int .i64 r.bound, .slice a2 r.body.length c2, .slice a3 r.w.length c3] 60) = W at *
    have hd : Below W.heap.size W W.drew := (Below.refl _ _).drew
    have kd : ∀ o, W.drew.cell? ⟨w.heap.size, o, none⟩ = _ := kx
    go_region_with (first
      | (go_at_call 79; (with_reducible refine (member_any _ m _ (HM.out.below hd) HML.out).mono ?_); rintro e w3 ⟨mb, rfl, hin, hb3⟩; have HIN := Lib.hid hin; have HB3 := Lib.hid (hd.trans hb3); have kx3 := fun o => (bcell HB3.out _ o hlt).trans (kx o); clear hin hb3)
      | (go_at_call 78; (with_reducible refine (bodyf_any _ r m mb _ (HR.out.below HB3.out) HIN.out HOK.out).mono ?_); rintro e w4 ⟨rfl, hb4⟩; have HB4 := Lib.hid (bon HB3.out hb4); clear hb4))
    all_goals go_wp2
    all_goals go_ret
    all_goals exact ⟨rfl, HAL.out.trans (HB4.out.mono HAL.out.size)⟩
  | true =>
    rw [hs] at HR HB HW HM HBX HAL kx hlt
    have hwl : r.w.length = r.body.length := HOK.out.wlen hs
    have hwl2 : ((r.w.length : Int) != r.body.length) = false := by simp [hwl]
    have HWT : Hid (anyR r.w.length (fun j => decide (ix r.w j < 0) || decide (1048576 < ix r.w j)) = false) := Lib.hid (anyR_false fun j hj => by have := HOK.out.w hs j hj; rw [decide_eq_false (by omega), decide_eq_false (by omega)]; rfl)
    clear hs hwl
    go_enter Tryz.func32, Tryz.ntmps32
    go_upto_region 5 with (first | (go_at_call 57; (with_reducible refine (contains_any _ r.body _ _ HB.out).mono ?_); rintro e w1 ⟨e1, rfl⟩; (first | rw [H0.out] at e1 | rw [H1.out] at e1); subst e1) | (go_at_call 76; (with_reducible refine (ctn_bw _ r.w _ HW.out (fun j => decide (ix r.w j < 0) || decide (1048576 < ix r.w j)) (fun w' _ j _ => (bodyw_any _ w').mono fun e w'' ⟨e1, e2⟩ => ⟨e1, e2 ▸ Below.refl _ _⟩)).mono ?_); rintro e w2 ⟨e2, hb2⟩; rw [HWT.out] at e2; subst e2; have HB2 := Lib.hid hb2; have kx2 := fun o => (bcell hb2 _ o hlt).trans (kx o); have hlt2 := Nat.lt_of_lt_of_le hlt hb2.size; clear hb2))
    have hd : Below w2.heap.size w2 w2.drew := (Below.refl _ _).drew
    have kd : ∀ o, w2.drew.cell? ⟨w.heap.size, o, none⟩ = _ := kx2
    go_region_with (first
      | (go_at_call 79; (with_reducible refine (member_any _ m _ (HM.out.below (HB2.out.trans (hd.mono HB2.out.size))) HML.out).mono ?_); rintro e w3 ⟨mb, rfl, hin, hb3⟩; have HIN := Lib.hid hin; have HB3 := Lib.hid (hd.trans hb3); have kx3 := fun o => (bcell HB3.out _ o hlt2).trans (kx2 o); clear hin hb3)
      | (go_at_call 78; (with_reducible refine (bodyf_any _ r m mb _ (HR.out.below (bon HB2.out HB3.out)) HIN.out HOK.out).mono ?_); rintro e w4 ⟨rfl, hb4⟩; have HB4 := Lib.hid (bon HB2.out (bon HB3.out hb4)); clear hb4))
    all_goals go_wp2
    all_goals go_ret
    all_goals exact ⟨rfl, HAL.out.trans (HB4.out.mono HAL.out.size)⟩
structure SU where
  r : GR
  b : Int
  S : List Int
def SupIs (w : World) (v : Value) (u : SU) : Prop := ∃ vh vb vw vs, v = .agg #[.bool u.r.choice, vh, .bool u.r.sum, .int .i64 u.r.bound, vb, vw, .int .i64 u.b, vs] ∧ RuleSl w u.r vh vb vw ∧ Ints w vs u.S ∧ InI u.b
theorem SupIs.below {w w' : World} {v : Value} {u : SU} (h : SupIs w v u) (hb : Below w.heap.size w w') : SupIs w' v u :=
  let ⟨vh, vb, vw, vs, e, h1, h2, h3⟩ := h; ⟨vh, vb, vw, vs, e, h1.below hb, h2.below hb, h3⟩
def intB (S : List Int) (l : Int) : Bool := decide (0 < l) && decide (l ∈ S)
def wgt (u : SU) (g : Int → Bool) : Nat → Int
  | 0 => 0
  | k + 1 => wgt u g k + if !intB u.S (ix u.r.body k) && g (ix u.r.body k) then ix u.r.w k else 0
structure SUok (u : SU) : Prop where
  lits : ∀ k, k < u.r.body.length → 1 ≤ (ix u.r.body k).natAbs ∧ (ix u.r.body k).natAbs ≤ 1000000
  wts : u.r.sum = true → u.r.w.length = u.r.body.length ∧ (∀ k, k < u.r.w.length → 1 ≤ ix u.r.w k) ∧ ∀ k, k ≤ u.r.w.length → 0 ≤ sumTo u.r.w k ∧ sumTo u.r.w k ≤ 1048576
  bound : 0 ≤ u.r.bound ∧ u.r.bound ≤ 1048576
  head : ∀ k, k < u.r.head.length → 1 ≤ ix u.r.head k ∧ ix u.r.head k ≤ 1000000
  b : 1 ≤ u.b ∧ u.b ≤ 1000000
  hlen : u.r.head.length ≤ 1000000
theorem blk_setCells {g : Nat} {t : TypeId} : ∀ (vs : List Value) (o : Nat) (D : List Value) (w : World), Blk w g D t → ∃ D', Blk (w.setCells g o vs) g D' t ∧ D'.length = D.length ∧ ∀ k, k < o → D'[k]? = D[k]?
  | [], _, D, _, h => ⟨D, h, rfl, fun _ _ => rfl⟩
  | v :: vs, o, D, w, h => by
    obtain ⟨D', h1, h2, h3⟩ := blk_setCells vs (o + 1) (D.set o v) (w.setCell ⟨g, o, none⟩ v) (h.set o v)
    refine ⟨D', h1, by simpa using h2, fun k hk => ?_⟩
    rw [h3 k (by omega), List.getElem?_set_ne (by omega)]
theorem lim_setCells {n g : Nat} {S : List Nat} {w0 : World} (hg : g ∈ S) : ∀ (vs : List Value) (o : Nat) (w : World), Lim n S w0 w → Lim n S w0 (w.setCells g o vs)
  | [], _, _, h => h
  | v :: vs, o, _, h => lim_setCells hg vs (o + 1) _ (h.trans (.setCell v (.inl hg)))
def keepF (q : Int → Bool) (l : List Int) (j : Nat) : List Int := (l.take j).filter fun x => !q x
theorem keepF_succ {q : Int → Bool} {l : List Int} {j : Nat} (hj : j < l.length) : keepF q l (j + 1) = if q (ix l j) then keepF q l j else keepF q l j ++ [ix l j] := by
  unfold keepF
  rw [take_ix l j hj, List.filter_append]
  cases h : q (ix l j) <;> simp [h]
theorem keepF_none {q : Int → Bool} {l : List Int} : ∀ j, j ≤ l.length → (∀ k, k < j → q (ix l k) = false) → keepF q l j = l.take j
  | 0, _, _ => by simp [keepF]
  | j + 1, hj, h => by
    rw [keepF_succ (by omega), h j (by omega), keepF_none j (by omega) (fun k hk => h k (by omega)), take_ix l j (by omega)]
    rfl
theorem keepF_le (q : Int → Bool) (l : List Int) (j : Nat) : (keepF q l j).length ≤ j := by
  have h := List.length_filter_le (fun x => !q x) (l.take j)
  have h2 := List.length_take_le j l
  unfold keepF
  omega
theorem fits_of {l : List Int} (h : ∀ x ∈ l, InI x) : Fits l := fun i => by
  by_cases hi : i < l.length
  · exact h _ (ix_mem hi)
  · have : ix l i = 0 := by unfold ix; rw [List.getD_eq_getElem?_getD, List.getElem?_eq_none (by omega)]; rfl
    rw [this]; omega
theorem ix_push (l : List Int) (x : Int) : ix (l ++ [x]) l.length = x := by simp [ix]
def DelSt (w : World) (g : Nat) (q : Int → Bool) (l : List Int) (N j : Nat) (wx : World) : Prop :=
  ∃ D : List Value, D.length = N ∧ Blk wx g D 3 ∧ (∀ k, k < (keepF q l j).length → D[k]? = some (.int .i64 (ix (keepF q l j) k))) ∧ (∀ k, j ≤ k → k < l.length → D[k]? = some (.int .i64 (ix l k))) ∧ Lim w.heap.size [g] w wx
def DelRel (w : World) (g : Nat) (q : Int → Bool) (l : List Int) (N : Nat) (i j : Value) (wx : World) : Prop :=
  ∃ jj : Nat, jj ≤ l.length ∧ j = .int .i64 jj ∧ i = .int .i64 (keepF q l jj).length ∧ (keepF q l jj).length < jj ∧ DelSt w g q l N jj wx
theorem DelSt.keep {w wx : World} {g N j : Nat} {q : Int → Bool} {l : List Int} (h : DelSt w g q l N j wx) (hj : j < l.length) (hN : l.length ≤ N) (hq : q (ix l j) = false) :
    DelSt w g q l N (j + 1) (wx.setCell ⟨g, (keepF q l j).length, none⟩ (.int .i64 (ix l j))) := by
  obtain ⟨D, h1, h2, h3, h4, h5⟩ := h
  have hle := keepF_le q l j
  have e : keepF q l (j + 1) = keepF q l j ++ [ix l j] := by rw [keepF_succ hj, hq]; rfl
  refine ⟨D.set (keepF q l j).length (.int .i64 (ix l j)), by simpa using h1, h2.set _ _, fun k hk => ?_, fun k hk hk2 => ?_, h5.trans (.setCell _ (.inl (by simp)))⟩
  · rw [e] at hk ⊢
    simp only [List.length_append, List.length_singleton] at hk
    by_cases hke : k = (keepF q l j).length
    · subst hke
      rw [List.getElem?_set_self (by omega), ix_push]
    · rw [List.getElem?_set_ne (by omega), h3 k (by omega)]
      congr 2
      simp [ix, List.getElem?_append_left (show k < (keepF q l j).length by omega)]
  · rw [List.getElem?_set_ne (by omega)]
    exact h4 k (by omega) hk2
theorem DelSt.drop {w wx : World} {g N j : Nat} {q : Int → Bool} {l : List Int} (h : DelSt w g q l N j wx) (hj : j < l.length) (hq : q (ix l j) = true) : DelSt w g q l N (j + 1) wx := by
  obtain ⟨D, h1, h2, h3, h4, h5⟩ := h
  have e : keepF q l (j + 1) = keepF q l j := by rw [keepF_succ hj, hq]; rfl
  exact ⟨D, h1, h2, by rw [e]; exact h3, fun k hk => h4 k (by omega), h5⟩
theorem DelSt.on {w wx w' : World} {g N j : Nat} {q : Int → Bool} {l : List Int} (h : DelSt w g q l N j wx) (hb : Below wx.heap.size wx w') : DelSt w g q l N j w' := by
  obtain ⟨D, h1, h2, h3, h4, h5⟩ := h
  exact ⟨D, h1, h2.below hb, h3, h4, h5.trans (.of_below hb h5.size)⟩
def oth (u : SU) : List Int := if u.r.choice then [] else keepF (fun x => decide (x ∈ u.S)) u.r.head u.r.head.length
def impB (u : SU) : Bool := if u.r.sum then decide (wgt u (fun _ => true) u.r.body.length < u.r.bound) else anyR u.r.body.length (fun j => intB u.S (ix u.r.body j))
attribute [local go_sem] Oper.semAt_some
abbrev SupV (w : World) := { x : Value × SU // SupIs w x.1 x.2 ∧ SUok x.2 }
structure SupSt (wi w : World) (p : GP) (S : List Int) (pb sb : Nat) (vn vs vr vm vset : Value) : Prop where
  below : Below wi.heap.size wi w
  pb : Blk w pb [.int .i64 p.n, vn, vs, vr, vm] 27
  sb : Blk w sb [vset] 23
theorem SupSt.on {wi w w' : World} {p : GP} {S : List Int} {pb sb : Nat} {vn vs vr vm vset : Value} (h : SupSt wi w p S pb sb vn vs vr vm vset) (hb : Below w.heap.size w w') : SupSt wi w' p S pb sb vn vs vr vm vset :=
  ⟨h.below.trans (hb.mono h.below.size), h.pb.below hb, h.sb.below hb⟩
theorem SupSt.lim {wi w0 w w' : World} {p : GP} {S : List Int} {pb sb rb : Nat} {vn vs vr vm vset : Value} (h : SupSt wi w p S pb sb vn vs vr vm vset) (hl : Lim w0.heap.size [rb] w w') (hN : wi.heap.size ≤ w0.heap.size) (hrb : wi.heap.size ≤ rb) (hp : pb < w0.heap.size ∧ pb ≠ rb) (hs : sb < w0.heap.size ∧ sb ≠ rb) : SupSt wi w' p S pb sb vn vs vr vm vset :=
  ⟨h.below.trans ((hl.mono hN (fun i hi _ => hi)).below (fun i hi => by simp only [List.mem_singleton] at hi; omega)), h.pb.same (hl.block _ hp.1 (by simpa using hp.2)), h.sb.same (hl.block _ hs.1 (by simpa using hs.2))⟩
theorem grown_of_below {w w' : World} (h : Below w.heap.size w w') : w.grownBy w' none := ⟨h.os, h.tape, h.output, h.size, fun k hk _ => h.block k hk⟩
theorem AbidesFrom.below {β : Type} {B : Nat} {J : β → World → Prop} (h : AbidesFrom B J) {s : β} {w w' : World} (hs : J s w) (hb : Below w.heap.size w w') : J s w' :=
  h s w w' none hs (grown_of_below hb) (fun r e => by cases e)
end Go.Proofs.YtfajkmmmmmfhiaaGreatDoor
namespace Go.Proofs.YtfajkmmmmmfhiaaGreatDoor
open Go.RowKit Go.Shelf
attribute [local go_sem] Oper.semAt_some
theorem SupV.form {w : World} (x : SupV w) : ∃ vh vb vw vs, x.1.1 = .agg #[.bool x.1.2.r.choice, vh, .bool x.1.2.r.sum, .int .i64 x.1.2.r.bound, vb, vw, .int .i64 x.1.2.b, vs] ∧ (∃ a n c, vh = .slice a n c) ∧ (∃ a n c, vb = .slice a n c) ∧ (∃ a n c, vw = .slice a n c) ∧ ∃ a n c, vs = .slice a n c := by
  obtain ⟨vh, vb, vw, vs, e, h1, h2, h3⟩ := x.2.1
  obtain ⟨⟨_, _, e1, -⟩, -⟩ := h1.head
  obtain ⟨⟨_, _, e2, -⟩, -⟩ := h1.body
  obtain ⟨⟨_, _, e3, -⟩, -⟩ := h1.wts
  obtain ⟨⟨_, _, e4, -⟩, -⟩ := h2
  exact ⟨_, _, _, _, e, ⟨_, _, _, e1⟩, ⟨_, _, _, e2⟩, ⟨_, _, _, e3⟩, ⟨_, _, _, e4⟩⟩
end Go.Proofs.YtfajkmmmmmfhiaaGreatDoor
namespace Go.Proofs.YtfajkmmmmmfhiaaGreatDoor
open Go.RowKit
theorem ruleE_at {p : GP} (h : validE p = 0) {i : Nat} (hi : i < p.rules.length) : ruleE (ixR p.rules i) p.n = 0 := by
  unfold validE at h
  split at h
  · omega
  split at h
  · omega
  split at h
  · rename_i h3; exact absurd h h3
  rename_i h3
  exact rulesFrom_zero p.rules.length 0 (Decidable.not_not.1 h3) i (by omega) (by omega)
theorem rule_bound {r : GR} {n : Int} (h : ruleE r n = 0) : 0 ≤ r.bound ∧ r.bound ≤ 1048576 := by
  unfold ruleE at h
  grind
def CntSt (W0 : World) (bm : Nat) (P : Int → Prop) (B : Int) (wx : World) : Prop :=
  ∃ G, MapIs (Value.int .i64) wx bm (mapI G) ∧ (∀ y, 0 ≤ G y ∧ G y ≤ B ∧ (0 < G y ↔ P y)) ∧ Below W0.heap.size W0 wx
theorem CntSt.start (W0 : World) : CntSt W0 W0.heap.size (fun _ => False) 0 (W0.alloc (.map #[] 0)) := by
  refine ⟨fun _ => 0, ?_, fun y => by simp, bal (Below.refl _ _) _⟩
  have : mapI (fun _ => 0) = fun _ => none := by funext x; simp [mapI]
  rw [this]; exact MapIs.made W0
theorem CntSt.on {W0 wx wy : World} {bm : Nat} {P : Int → Prop} {B : Int} (h : CntSt W0 bm P B wx) (hb : Below wx.heap.size wx wy) : CntSt W0 bm P B wy :=
  let ⟨G, h1, h2, h3⟩ := h; ⟨G, h1.below hb, h2, bon h3 hb⟩
theorem CntSt.same {W0 wx : World} {bm : Nat} {P Q : Int → Prop} {B C : Int} (h : CntSt W0 bm P B wx) (hp : ∀ y, P y ↔ Q y) (hB : B ≤ C) : CntSt W0 bm Q C wx :=
  let ⟨G, h1, h2, h3⟩ := h; ⟨G, h1, fun y => ⟨(h2 y).1, Int.le_trans (h2 y).2.1 hB, (h2 y).2.2.trans (hp y)⟩, h3⟩
theorem CntSt.put {W0 wx w7 : World} {bm : Nat} {P Q : Int → Prop} {B : Int} {G : Int → Int} {x : Int} (hG : ∀ y, 0 ≤ G y ∧ G y ≤ B ∧ (0 < G y ↔ P y)) (hb : Below W0.heap.size W0 wx) (hbm : W0.heap.size ≤ bm)
    (hm : MapIs (Value.int .i64) w7 bm (upd (mapI G) x (some (.int .i64 (G x + 1))))) (hg : wx.grownBy w7 (some bm)) (hQ : ∀ y, Q y ↔ P y ∨ y = x) : CntSt W0 bm Q (B + 1) w7 := by
  have hx := hG x
  have hsz := hb.size
  refine ⟨setI G x (G x + 1), by rw [mapI_set (by omega)]; exact hm, fun y => ?_, hb.trans ⟨hg.os, hg.tape, hg.output, hg.size, fun i hi => hg.block i (by omega) (fun e => by have := Option.some.inj e; omega)⟩⟩
  rw [hQ y]
  by_cases e : y = x
  · subst e
    have e2 : setI G y (G y + 1) y = G y + 1 := by simp [setI]
    rw [e2]
    exact ⟨by omega, by omega, ⟨fun _ => .inr rfl, fun _ => by omega⟩⟩
  · have e2 : setI G x (G x + 1) y = G y := by simp [setI, e]
    rw [e2]
    have := hG y
    exact ⟨this.1, by omega, ⟨fun h => .inl (this.2.2.1 h), fun h => this.2.2.2 (h.resolve_right e)⟩⟩
attribute [local go_sem] memUpon
structure RFx (R : List GR) (n : Int) (w w1 : World) (nb ob b9 b6 b3 b8 : Nat) (ar : Option Addr) (cr : Nat) : Prop where
  need : Blk w1 b6 [.slice (some ⟨nb, 0, none⟩) R.length R.length] 23
  out : Blk w1 b8 [.slice (some ⟨ob, 0, none⟩) n.toNat n.toNat] 23
  rbox : Blk w1 b3 [.slice ar R.length cr] 24
  rules : RulesIs w (.slice ar R.length cr) R
  below : Below w.heap.size w w1
  lo : w.heap.size ≤ nb ∧ w.heap.size ≤ ob ∧ w.heap.size ≤ b9 ∧ w.heap.size ≤ b6 ∧ w.heap.size ≤ b3 ∧ w.heap.size ≤ b8
  lt : nb < w1.heap.size ∧ ob < w1.heap.size ∧ b9 < w1.heap.size
  ne : nb ≠ ob ∧ nb ≠ b9 ∧ ob ≠ b9 ∧ b6 ≠ nb ∧ b6 ≠ ob ∧ b6 ≠ b9 ∧ b8 ≠ nb ∧ b8 ≠ ob ∧ b8 ≠ b9 ∧ b3 ≠ nb ∧ b3 ≠ ob ∧ b3 ≠ b9
structure RSt (w1 : World) (nb ob b9 : Nat) (nd od l : List Int) (wx : World) : Prop where
  lim : Lim w1.heap.size [nb, ob, b9] w1 wx
  need : Blk wx nb (nd.map (Value.int .i64)) 3
  out : Blk wx ob (od.map (Value.int .i64)) 3
  now : ∃ an cn, Blk wx b9 [.slice an l.length cn] 23 ∧ QRow w1.heap.size wx (.slice an l.length cn) l
section
variable {R : List GR} {n : Int} {w w1 wx w' : World} {nb ob b9 b6 b3 b8 : Nat} {ar : Option Addr} {cr : Nat} {nd od l : List Int}
theorem RSt.on (h : RSt w1 nb ob b9 nd od l wx) (hb : Below wx.heap.size wx w') : RSt w1 nb ob b9 nd od l w' := by
  obtain ⟨an, cn, h1, h2⟩ := h.now
  exact ⟨h.lim.trans (.of_below hb h.lim.size), h.need.below hb, h.out.below hb, an, cn, h1.below hb, h2.kept fun i _ hi _ => hb.block i hi⟩
theorem RFx.at (hf : RFx R n w w1 nb ob b9 b6 b3 b8 ar cr) (h : RSt w1 nb ob b9 nd od l wx) :
    Blk wx b6 [.slice (some ⟨nb, 0, none⟩) R.length R.length] 23 ∧ Blk wx b8 [.slice (some ⟨ob, 0, none⟩) n.toNat n.toNat] 23 ∧ Blk wx b3 [.slice ar R.length cr] 24 ∧ Below w.heap.size w wx := by
  have hn := hf.ne
  have k : ∀ b, b < w1.heap.size → b ≠ nb → b ≠ ob → b ≠ b9 → wx.heap[b]? = w1.heap[b]? := fun b h1 h2 h3 h4 => h.lim.block b h1 (by simp [h2, h3, h4])
  refine ⟨hf.need.same (k _ hf.need.lt (by omega) (by omega) (by omega)), hf.out.same (k _ hf.out.lt (by omega) (by omega) (by omega)), hf.rbox.same (k _ hf.rbox.lt (by omega) (by omega) (by omega)), hf.below.trans ((h.lim.mono hf.below.size (fun i hi _ => hi)).below (fun i hi => ?_))⟩
  have := hf.lo
  simp only [List.mem_cons, List.not_mem_nil, or_false] at hi
  rcases hi with rfl | rfl | rfl <;> omega
theorem mapI_setL (l : List Int) (i : Nat) (v : Int) : (l.map (Value.int .i64)).set i (.int .i64 v) = (l.set i v).map (Value.int .i64) := by
  rw [List.map_set]
theorem QRow.slenQ {base : Nat} {w : World} {v : Value} {l : List Int} (h : QRow base w v l) : ∃ a c, v = .slice a l.length c := by
  rcases h.2 with ⟨rfl, rfl⟩ | ⟨g, off, cap, cur, rfl, _⟩
  · exact ⟨_, _, rfl⟩
  · exact ⟨_, _, rfl⟩
theorem RSt.push {an : Option Addr} {cn : Nat} {v4 : Value} {x : Int} {w4 : World} (h : RSt w1 nb ob b9 nd od l wx) (hb : Blk wx b9 [.slice an l.length cn] 23) (hq : QRow w1.heap.size wx (.slice an l.length cn) l) (hne : nb ≠ b9 ∧ ob ≠ b9) (hlt : nb < w1.heap.size ∧ ob < w1.heap.size ∧ b9 < w1.heap.size)
    (hq4 : QRow w1.heap.size w4 v4 (l ++ [x])) (hg : wx.grownBy w4 (Value.slice an l.length cn).ownBlock) : Blk w4 b9 [.slice an l.length cn] 23 ∧ RSt w1 nb ob b9 nd od (l ++ [x]) (w4.setCell ⟨b9, 0, none⟩ v4) := by
  have hlow : ∀ i, i < w1.heap.size → some i ≠ (Value.slice an l.length cn).ownBlock := fun i hi e => by
    rcases hq.2 with ⟨e2, _⟩ | ⟨g, off, cap, cur, e2, hbg, _⟩
    · rw [e2] at e; cases e
    · rw [e2] at e; simp only [Value.ownBlock, Option.some.injEq] at e; omega
  have hs := h.lim.size
  have hk : ∀ i, i < w1.heap.size → w4.heap[i]? = wx.heap[i]? := fun i hi => hg.block i (by omega) (hlow i hi)
  obtain ⟨a4, c4, rfl⟩ := hq4.slenQ
  have hb4 := hb.same (hk _ hlt.2.2)
  refine ⟨hb4, ⟨(h.lim.trans ⟨hg.os, hg.tape, hg.output, hg.size, fun i hi _ => hk i hi⟩).trans (.setCell _ (.inl (by simp))), (h.need.same (hk _ hlt.1)).setOther _ _ hne.1, (h.out.same (hk _ hlt.2.1)).setOther _ _ hne.2, a4, c4, hb4.set 0 _, hq4.kept fun i hi _ _ => Below.heap_setCell _ _ _ _ (show i ≠ b9 by omega)⟩⟩
def ReachP (R : List GR) (nd : List Int) (i : Nat) (round : Int) (od l od' l' : List Int) : Prop :=
  (od' = od ∧ l' = l ∧ (ix nd i ≤ 0 → ∀ x ∈ (ixR R i).head, ix od (x - 1).toNat ≠ 0)) ∨
    (ix nd i ≤ 0 ∧ ∃ x, (ixR R i).head = [x] ∧ ix od (x - 1).toNat = 0 ∧ od' = od.set (x - 1).toNat round ∧ l' = l ++ [x])
theorem Lv.reach {C od' l' : List Int} (hd : DefR n R) (h : Lv n R C l od nd) (hp : Paid R C nd) {i : Nat} (hi : i < R.length) {round : Int} (hr : 1 ≤ round ∧ round ≤ 4000000) (hx : ReachP R nd i round od l od' l') :
    Lv n R C l' od' nd ∧ (∀ x ∈ C ++ l, x ∈ C ++ l') ∧ (ix nd i ≤ 0 → ∀ x ∈ (ixR R i).head, x ∈ C ++ l') := by
  rcases hx with ⟨rfl, rfl, h1⟩ | ⟨h0, x, e, ho, rfl, rfl⟩
  · refine ⟨h, fun _ h => h, fun h0 x hx => ?_⟩
    have hxr := (hd.head i hi).2 x hx
    have ho := h.out x hxr.1 hxr.2
    have := h1 h0 x hx
    exact ho.1.1 (by omega)
  · refine ⟨h.take hd hp hi h0 e ho hr, fun y hy => by rw [← List.append_assoc]; exact List.mem_append_left _ hy, fun _ y hy => ?_⟩
    rw [e] at hy
    simp only [List.mem_singleton] at hy
    subst hy
    simp
theorem Asked.reach {A A' : List Int} {T T' : Nat → Prop} {i : Nat} (h : Asked R A nd T) (hA : ∀ x ∈ A, x ∈ A') (hi : ix nd i ≤ 0 → ∀ x ∈ (ixR R i).head, x ∈ A') (hT : ∀ j, T j → j = i ∨ T' j) : Asked R A' nd T' := fun j hj h0 => by
  rcases h j hj h0 with h1 | h1
  · exact .inl fun x hx => hA x (h1 x hx)
  · rcases hT j h1 with rfl | h2
    · exact .inl (hi h0)
    · exact .inr h2
end
end Go.Proofs.YtfajkmmmmmfhiaaGreatDoor
namespace Go.Proofs.YtfajkmmmmmfhiaaGreatDoor
open Go.RowKit
def cells2 (u : Int × Int) : List Value := [.int .i64 u.1, .int .i64 u.2]
structure UT (nn B tb : Nat) (V : List Value) (U : Int → List (Int × Int)) (w : World) : Prop where
  tab : Blk w tb V 157
  len : V.length = nn + 1
  row : ∀ a : Nat, a ≤ nn → w.ownsRow B 158 2 (V.getD a nilS) (U a).length ((U a).flatMap cells2)
  dis : ∀ a a' : Nat, ∀ g, a ≤ nn → a' ≤ nn → (V.getD a nilS).ownBlock = some g → (V.getD a' nilS).ownBlock = some g → a = a'
  lo : tb < B ∧ B ≤ w.heap.size
section
variable {nn B tb : Nat} {V : List Value} {U : Int → List (Int × Int)} {w w' : World}
theorem UT.kept (h : UT nn B tb V U w) (hs : w.heap.size ≤ w'.heap.size) (hb : ∀ i, (i = tb ∨ B ≤ i) → i < w.heap.size → w'.heap[i]? = w.heap[i]?) : UT nn B tb V U w' := by
  refine ⟨h.tab.same (hb _ (.inl rfl) h.tab.lt), h.len, fun a ha => ⟨(h.row a ha).1, ?_⟩, h.dis, h.lo.1, by have := h.lo; omega⟩
  rcases (h.row a ha).2 with hn | ⟨g, cap, cur, e, hbg, hgg, rest⟩
  · exact .inl hn
  · exact .inr ⟨g, cap, cur, e, hbg, (hb g (.inr hbg) (Array.getElem?_eq_some_iff.1 hgg).1).trans hgg, rest⟩
theorem UT.below (h : UT nn B tb V U w) (hb : Below w.heap.size w w') : UT nn B tb V U w' := h.kept hb.size fun i _ hi => hb.block i hi
theorem row_block {base E size n : Nat} {xs : List Value} {v : Value} {g : Nat} (h : w.ownsRow base E size v n xs) (hg : v.ownBlock = some g) : base ≤ g ∧ g < w.heap.size := by
  rcases h.2 with ⟨rfl, _⟩ | ⟨g', cap, cur, rfl, hb, hgg, _⟩
  · cases hg
  · simp only [Value.ownBlock, Option.some.injEq] at hg
    subst hg
    exact ⟨hb, (Array.getElem?_eq_some_iff.1 hgg).1⟩
theorem getDV_set (V : List Value) (a b : Nat) (v : Value) (ha : a < V.length) : (V.set a v).getD b nilS = if b = a then v else V.getD b nilS := by
  simp only [List.getD_eq_getElem?_getD]
  by_cases h : b = a
  · subst h; rw [if_pos rfl, List.getElem?_set_self ha]; rfl
  · rw [if_neg h, List.getElem?_set_ne (by omega)]
theorem UT.push (h : UT nn B tb V U w) (a : Nat) (ha : a ≤ nn) (u : Int × Int) {g cap : Nat} (hown : w'.ownsRow B 158 2 (.slice (some ⟨g, 0, none⟩) ((U a).length + 1) cap) ((U a).length + 1) ((U a).flatMap cells2 ++ cells2 u))
    (hg : w.grownBy w' (V.getD a nilS).ownBlock) (hl : (V.getD a nilS).ownBlock = some g ∨ g = w.heap.size) :
    Blk w' tb V 157 ∧ UT nn B tb (V.set a (.slice (some ⟨g, 0, none⟩) ((U a).length + 1) cap)) (fun b => if b = (a : Int) then U b ++ [u] else U b) (w'.setCell ⟨tb, a, none⟩ (.slice (some ⟨g, 0, none⟩) ((U a).length + 1) cap)) := by
  have hlo := h.lo
  have hrow : ∀ g', (V.getD a nilS).ownBlock = some g' → B ≤ g' := fun g' e => (row_block (h.row a ha) e).1
  have htab : Blk w' tb V 157 := h.tab.same (hg.block _ h.tab.lt (fun e => by have := hrow _ e.symm; omega))
  refine ⟨htab, htab.set _ _, by simpa using h.len, fun b hb => ?_, fun b b' g' hb hb' => ?_, hlo.1, by have := hg.size; simp [World.setCell]; omega⟩
  · rw [getDV_set V a b _ (by have := h.len; omega)]
    have setK : ∀ {v : Value} {n : Nat} {xs : List Value} {nv : Value}, w'.ownsRow B 158 2 v n xs → (w'.setCell ⟨tb, a, none⟩ nv).ownsRow B 158 2 v n xs := fun {v n xs nv} hr => by
      refine ⟨hr.1, ?_⟩
      rcases hr.2 with hn | ⟨g', cap, cur, e, hbg, hgg, rest⟩
      · exact .inl hn
      · exact .inr ⟨g', cap, cur, e, hbg, (Below.heap_setCell _ _ _ _ (show g' ≠ tb by omega)).trans hgg, rest⟩
    by_cases e : b = a
    · subst e
      rw [if_pos rfl]
      simp only [if_true, List.length_append, List.length_singleton, List.flatMap_append, List.flatMap_cons, List.flatMap_nil, List.append_nil]
      exact setK hown
    · rw [if_neg e]
      simp only [show ¬ ((b : Int) = (a : Int)) by omega, if_false]
      refine setK ⟨(h.row b hb).1, ?_⟩
      rcases (h.row b hb).2 with hn | ⟨g', cap', cur, e', hbg, hgg, rest⟩
      · exact .inl hn
      · refine .inr ⟨g', cap', cur, e', hbg, (hg.block g' (Array.getElem?_eq_some_iff.1 hgg).1 (fun e2 => e (h.dis b a g' hb ha (by rw [e']; rfl) e2.symm))).trans hgg, rest⟩
  · have hlen := h.len
    rw [getDV_set V a b _ (by omega), getDV_set V a b' _ (by omega)]
    have key : ∀ c : Nat, c ≤ nn → c ≠ a → (V.getD c nilS).ownBlock ≠ some g := fun c hc hca e => by
      rcases hl with hl | hl
      · exact hca (h.dis c a g hc ha e hl)
      · have := (row_block (h.row c hc) e).2; omega
    by_cases e1 : b = a
    · by_cases e2 : b' = a
      · intro _ _; omega
      · rw [if_pos e1, if_neg e2]
        intro h1 h2
        simp only [Value.ownBlock, Option.some.injEq] at h1
        exact absurd (h1 ▸ h2) (key b' hb' e2)
    · by_cases e2 : b' = a
      · rw [if_neg e1, if_pos e2]
        intro h1 h2
        simp only [Value.ownBlock, Option.some.injEq] at h2
        exact absurd (h2 ▸ h1) (key b hb e1)
      · rw [if_neg e1, if_neg e2]
        exact h.dis b b' g' hb hb'
theorem UT.cell (h : UT nn B tb V U w) (a : Nat) (ha : a ≤ nn) : w.cell? ⟨tb, a, none⟩ = some (V.getD a nilS) := by
  rw [h.tab.cell]
  have := h.len
  rw [List.getElem?_eq_getElem (by omega)]
  simp [List.getD_eq_getElem?_getD, List.getElem?_eq_getElem (show a < V.length by omega)]
theorem flat2 : ∀ (L : List (Int × Int)) (i : Nat), i < L.length → (L.flatMap cells2)[i * 2]? = some (.int .i64 (L.getD i (0, 0)).1) ∧ (L.flatMap cells2)[i * 2 + 1]? = some (.int .i64 (L.getD i (0, 0)).2)
  | [], i, hi => absurd hi (Nat.not_lt_zero _)
  | q :: L, 0, _ => by simp [cells2]
  | q :: L, i + 1, hi => by
    have ih := flat2 L i (by simpa using hi)
    have e1 : (i + 1) * 2 = i * 2 + 1 + 1 := by omega
    simp only [List.flatMap_cons, cells2, List.cons_append, List.nil_append, e1, List.getElem?_cons_succ, List.getD_cons_succ]
    exact ih
theorem UT.at (h : UT nn B tb V U w) (a : Nat) (ha : a ≤ nn) : ∃ ad cap, V.getD a nilS = .slice ad (U a).length cap ∧ ∀ j, j < (U a).length → ∃ g, ad = some ⟨g, 0, none⟩ ∧ B ≤ g ∧ g < w.heap.size ∧ w.cell? ⟨g, j * 2, none⟩ = some (.int .i64 ((U a).getD j (0, 0)).1) ∧ w.cell? ⟨g, j * 2 + 1, none⟩ = some (.int .i64 ((U a).getD j (0, 0)).2) := by
  rcases (h.row a ha).2 with ⟨e, e2⟩ | ⟨g, cap, cur, e, hb, hg, hn, hm, hs, hx⟩
  · exact ⟨none, 0, by rw [e, e2], fun j hj => by omega⟩
  · refine ⟨_, cap, e, fun j hj => ⟨g, rfl, hb, (Array.getElem?_eq_some_iff.1 hg).1, ?_⟩⟩
    obtain ⟨h1, h2⟩ := flat2 (U a) j hj
    rw [← hx, List.getElem?_take_of_lt (by omega)] at h1 h2
    have c1 := cell_of_row w g (j * 2) cur _ (0, 0) hg
    have c2 := cell_of_row w g (j * 2 + 1) cur _ (0, 0) hg
    rw [c1, c2]
    exact ⟨by simpa using h1, by simpa using h2⟩
end
structure P1 (R : List GR) (nn : Nat) (W6 : World) (nb tb : Nat) (i : Nat) (nd : List Int) (V : List Value) (U : Int → List (Int × Int)) (wx : World) : Prop where
  lim : Lim W6.heap.size [nb, tb] W6 wx
  need : Blk wx nb (nd.map (Value.int .i64)) 3
  len : nd.length = R.length
  val : ∀ j, j < i → ix nd j = need0 (ixR R j)
  uses : UT nn W6.heap.size tb V U wx
  ne : nb ≠ tb ∧ nb < W6.heap.size
theorem P1.below {R : List GR} {nn nb tb i : Nat} {W6 wx w' : World} {nd : List Int} {V : List Value} {U : Int → List (Int × Int)} (h : P1 R nn W6 nb tb i nd V U wx) (hb : Below wx.heap.size wx w') : P1 R nn W6 nb tb i nd V U w' :=
  ⟨h.lim.trans (.of_below hb h.lim.size), h.need.below hb, h.len, h.val, h.uses.below hb, h.ne⟩
theorem P1.next {R : List GR} {nn nb tb i : Nat} {W6 wx : World} {nd : List Int} {V : List Value} {U : Int → List (Int × Int)} (h : P1 R nn W6 nb tb i nd V U wx) (hv : ix nd i = need0 (ixR R i)) : P1 R nn W6 nb tb (i + 1) nd V U wx :=
  ⟨h.lim, h.need, h.len, lt_succ_all h.val hv, h.uses, h.ne⟩
theorem P1.push {R : List GR} {nn nb tb i : Nat} {W6 wx w4 : World} {nd : List Int} {V : List Value} {U : Int → List (Int × Int)} (h : P1 R nn W6 nb tb i nd V U wx) (a : Nat) (ha : a ≤ nn) (u : Int × Int) {g cap : Nat} (hown : w4.ownsRow W6.heap.size 158 2 (.slice (some ⟨g, 0, none⟩) ((U a).length + 1) cap) ((U a).length + 1) ((U a).flatMap cells2 ++ cells2 u))
    (hg : wx.grownBy w4 (V.getD a nilS).ownBlock) (hl : (V.getD a nilS).ownBlock = some g ∨ g = wx.heap.size) :
    Blk w4 tb V 157 ∧ P1 R nn W6 nb tb i nd (V.set a (.slice (some ⟨g, 0, none⟩) ((U a).length + 1) cap)) (fun b => if b = (a : Int) then U b ++ [u] else U b) (w4.setCell ⟨tb, a, none⟩ (.slice (some ⟨g, 0, none⟩) ((U a).length + 1) cap)) := by
  obtain ⟨h1, h2⟩ := h.uses.push a ha u hown hg hl
  have hn := h.ne
  have hs := h.lim.size
  have hlow : ∀ j, j < W6.heap.size → w4.heap[j]? = wx.heap[j]? := fun j hj => hg.block j (by omega) (fun e => by have := (row_block (h.uses.row a ha) e.symm).1; omega)
  refine ⟨h1, (h.lim.trans ⟨hg.os, hg.tape, hg.output, hg.size, fun j hj _ => hlow j hj⟩).trans (.setCell _ (.inl (by simp))), (h.need.same (hlow _ hn.2)).setOther _ _ hn.1, h.len, h.val, h2, h.ne⟩
theorem P1.blk {R : List GR} {nn nb tb i b : Nat} {c : List Value} {T : TypeId} {W6 wx : World} {nd : List Int} {V : List Value} {U : Int → List (Int × Int)} (h : P1 R nn W6 nb tb i nd V U wx) (hb : Blk W6 b c T) (h1 : b ≠ nb) (h2 : b ≠ tb) : Blk wx b c T :=
  hb.same (h.lim.block b hb.lt (by simp [h1, h2]))
theorem P1.bel {R : List GR} {nn nb tb i : Nat} {w W6 wx : World} {nd : List Int} {V : List Value} {U : Int → List (Int × Int)} (h : P1 R nn W6 nb tb i nd V U wx) (hb : Below w.heap.size w W6) (h1 : w.heap.size ≤ nb) (h2 : w.heap.size ≤ tb) : Below w.heap.size w wx :=
  hb.trans ((h.lim.mono hb.size (fun i hi _ => hi)).below (fun i hi => by simp only [List.mem_cons, List.not_mem_nil, or_false] at hi; omega))
attribute [local go_sem] memUpon
theorem RSt.clear {w1 wx : World} {nb ob b9 : Nat} {nd od l : List Int} (h : RSt w1 nb ob b9 nd od l wx) (hne : nb ≠ b9 ∧ ob ≠ b9) : RSt (wx.setCell ⟨b9, 0, none⟩ (.slice none 0 0)) nb ob b9 nd od [] (wx.setCell ⟨b9, 0, none⟩ (.slice none 0 0)) := by
  obtain ⟨an, cn, h1, h2⟩ := h.now
  exact ⟨.refl _ _ _, h.need.setOther _ _ hne.1, h.out.setOther _ _ hne.2, none, 0, h1.set 0 _, QRow.nil _ _⟩
theorem RSt.back {w1 wx wy : World} {nb ob b9 : Nat} {nd od l nd' od' l' : List Int} {v : Value} (h : RSt w1 nb ob b9 nd od l wx) (k : RSt (wx.setCell ⟨b9, 0, none⟩ v) nb ob b9 nd' od' l' wy) : RSt w1 nb ob b9 nd' od' l' wy := by
  obtain ⟨an, cn, h1, h2⟩ := k.now
  have hs : (wx.setCell ⟨b9, 0, none⟩ v).heap.size = wx.heap.size := by simp [World.setCell]
  have hz := h.lim.size
  exact ⟨(h.lim.trans (.setCell _ (.inl (by simp)))).trans (k.lim.mono (by omega) (fun i hi _ => hi)), k.need, k.out, an, cn, h1, h2.mono (by omega)⟩
def R2 (R : List GR) (nn : Nat) (W6 : World) (nb tb k b12 : Nat) (c : List Value) (i : Value) (wx : World) : Prop :=
  ∃ q : Nat, q ≤ (ixR R k).body.length ∧ i = .int .i64 q ∧ ∃ nd V, P1 R nn W6 nb tb (k + 1) nd V (stepU (usesU R k) (ixR R k) k q) wx ∧ Blk wx b12 c 60
theorem RFx.clear {R : List GR} {n : Int} {w w1 wx : World} {nb ob b9 b6 b3 b8 : Nat} {ar : Option Addr} {cr : Nat} {nd od l : List Int} (hf : RFx R n w w1 nb ob b9 b6 b3 b8 ar cr) (h : RSt w1 nb ob b9 nd od l wx) (v : Value) : RFx R n w (wx.setCell ⟨b9, 0, none⟩ v) nb ob b9 b6 b3 b8 ar cr := by
  obtain ⟨h6, h8, h3, hb⟩ := hf.at h
  have := h.lim.size
  have h1 := hf.lt
  have h2 := hf.ne
  have h4 := hf.lo
  have hs : (wx.setCell ⟨b9, 0, none⟩ v).heap.size = wx.heap.size := by simp [World.setCell]
  exact ⟨h6.setOther _ _ (by omega), h8.setOther _ _ (by omega), h3.setOther _ _ (by omega), hf.rules, hb.setCell (show w.heap.size ≤ b9 by omega) _, hf.lo, by omega, hf.ne⟩
theorem Lv.turn {n : Int} {R : List GR} {C l od nd nd' : List Int} (h : Lv n R C l od nd) (hn : nd'.length = R.length) : Lv n R (C ++ l) [] od nd' :=
  ⟨by simpa using h.nodup, by simpa using h.range, h.olen, hn, by simpa using h.out, by simpa using h.der⟩
theorem UT.lim {nn B tb nb ob b9 : Nat} {V : List Value} {U : Int → List (Int × Int)} {w1 wx : World} (h : UT nn B tb V U w1) (hl : Lim w1.heap.size [nb, ob, b9] w1 wx) (hn : tb ≠ nb ∧ tb ≠ ob ∧ tb ≠ b9) (hB : nb < B ∧ ob < B ∧ b9 < B) : UT nn B tb V U wx :=
  h.kept hl.size fun i hi hi2 => hl.block i hi2 (by simp only [List.mem_cons, List.not_mem_nil, or_false]; omega)
theorem QRow.lo {base : Nat} {w : World} {b o n c : Nat} {l : List Int} (h : QRow base w (.slice (some ⟨b, o, none⟩) n c) l) : base ≤ b := by
  rcases h.2 with ⟨e, _⟩ | ⟨g, off, cap, cur, e, hb, _⟩
  · cases e
  · simp only [Value.slice.injEq, Option.some.injEq, Addr.mk.injEq] at e
    omega
theorem Lv.at {n : Int} {R : List GR} {C l od nd : List Int} (h : Lv n R C l od nd) {j : Nat} (hj : j < l.length) : 1 ≤ ix l j ∧ ix l j ≤ n :=
  h.range _ (List.mem_append_right _ (ix_mem hj))
theorem DefR.part {n : Int} {R : List GR} (h : DefR n R) {D : List Int} {a : Int} (ha : a ∉ D) {i : Nat} (hi : i < R.length) (q : Nat) :
    -1048576 ≤ need0 (ixR R i) - lhs D (ixR R i) - sumAt i ((usesU R R.length a).take q) ∧ need0 (ixR R i) - lhs D (ixR R i) - sumAt i ((usesU R R.length a).take q) ≤ 1048576 := by
  have hpos : ∀ u ∈ usesU R R.length a, 0 ≤ u.2 := fun u hu => by
    obtain ⟨i', k, h1, h2, h3, rfl⟩ := (usesU_mem _).1 hu
    have := (h.w1 h1 h2).1
    simp only
    omega
  have h1 := sumAt_take_le i (usesU R R.length a) hpos q
  have h2 := h.need hi D (Nat.le_refl _)
  have h3 := h.need hi (D ++ [a]) (Nat.le_refl _)
  rw [lhsTo_push ha] at h3
  have h4 := usesU_sum R i a R.length
  rw [if_pos hi] at h4
  unfold lhs
  omega
end Go.Proofs.YtfajkmmmmmfhiaaGreatDoor
namespace Go.Proofs.YtfajkmmmmmfhiaaGreatDoor
open Go.RowKit
theorem sorted_eq : ∀ {L M : List Int}, L.Pairwise (· < ·) → M.Pairwise (· < ·) → (∀ x, x ∈ L ↔ x ∈ M) → L = M
  | [], [], _, _, _ => rfl
  | [], y :: M, _, _, h => absurd ((h y).2 (by simp)) (by simp)
  | x :: L, [], _, _, h => absurd ((h x).1 (by simp)) (by simp)
  | x :: L, y :: M, hL, hM, h => by
    have hL' := List.pairwise_cons.1 hL
    have hM' := List.pairwise_cons.1 hM
    have hxy : x = y := by
      have h1 := (h x).1 (by simp)
      have h2 := (h y).2 (by simp)
      simp only [List.mem_cons] at h1 h2
      rcases h1 with h1 | h1
      · exact h1
      · rcases h2 with h2 | h2
        · exact h2.symm
        · have := hM'.1 x h1; have := hL'.1 y h2; omega
    subst hxy
    refine congrArg (x :: ·) (sorted_eq hL'.2 hM'.2 fun z => ?_)
    have hz := h z
    simp only [List.mem_cons] at hz
    constructor
    · intro hm
      have := hL'.1 z hm
      rcases hz.1 (.inr hm) with rfl | h1
      · omega
      · exact h1
    · intro hm
      have := hM'.1 z hm
      rcases hz.2 (.inr hm) with rfl | h1
      · omega
      · exact h1
structure SP where
  H : Nat
  T : Nat
  b : Nat
  bh : Nat
  bu : Nat
  bf : Nat
  bk : Nat
  vn : Value
  vr : Value
  gh : Int → Option Value
  gu : Int → Option Value
  Rh : Int → List Int
  Ru : Int → List Int
  qh : Nat → Value
  qb : Nat → Value
  qw : Nat → Value
structure FixC (s : SP) (p : GP) (w : World) : Prop where
  names : Strs w s.vn p.names
  rulesA : RulesAt w s.vr p.rules s.qh s.qb s.qw
  heads : MapIs (Value.int .i64) w s.bh s.gh
  uses : MapIs (Value.int .i64) w s.bu s.gu
  headRow : ∀ x, Ints w ((s.gh x).getD nilS) (s.Rh x)
  useRow : ∀ x, Ints w ((s.gu x).getD nilS) (s.Ru x)
theorem FixC.rules {s : SP} {p : GP} {w : World} (h : FixC s p w) : RulesIs w s.vr p.rules := ⟨_, _, _, h.rulesA⟩
theorem FixC.cells {s : SP} {p : GP} {w : World} (h : FixC s p w) : ∃ a cap, s.vr = .slice a p.rules.length cap ∧ (0 < p.rules.length → ∃ b off, a = some ⟨b, off, none⟩ ∧ b < w.heap.size ∧ ∀ i, i < p.rules.length → RuleCells w b (off + i * 6) (ixR p.rules i) (s.qh i) (s.qb i) (s.qw i)) := by
  obtain ⟨a, cap, e, h1, hm, h2, h3⟩ := h.rulesA.1
  refine ⟨a, cap, e, fun hp => ?_⟩
  obtain ⟨b, off, e, hl, hc⟩ := h3 hp
  exact ⟨b, off, e, hl, fun i hi => ⟨hc i hi 0 (by omega), hc i hi 1 (by omega), hc i hi 2 (by omega), hc i hi 3 (by omega), hc i hi 4 (by omega), hc i hi 5 (by omega)⟩⟩
end Go.Proofs.YtfajkmmmmmfhiaaGreatDoor
namespace Go.Proofs.YtfajkmmmmmfhiaaGreatDoor
open Go.RowKit Go.MapKept
section
variable {κ : Type} {kv : κ → Value} {d : TypeDesc} {P : Program} {w : World} {b : Nat} {g : κ → Option Value} {t kt et : TypeId}
def MapE (kv : κ → Value) (w : World) (b : Nat) (g : κ → Option Value) (k : κ) (c : Nat) : Prop :=
  ∃ es clock, w.heap[b]? = some (.map es clock) ∧ Stamped es clock ∧ (∀ x ∈ es.toList, ∃ k, x.key = kv k) ∧ (∀ k' v, k' ≠ k → (g k' = some v ↔ ∃ x ∈ es.toList, x.key = kv k' ∧ x.val = v)) ∧
    ∃ (j : Nat) (e : MapEntry), es[j]? = some e ∧ e.key = kv k ∧ e.born = c
theorem MapIs.entry [DecidableEq κ] (h : MapIs kv w b g) (V : KV kv d) (ht : P.underlying t = some (.map kt et)) (hd : P.underlying kt = some d) {z : Value} (hz : (zeroValue et).run P w = .ok z w) (k : κ) :
    ∃ (w' : World) (v0 : Value) (c : Nat), (Instr.mapEntry t (.map (some b)) (kv k)).run P w = .ok (.tuple #[v0, goInt (c : Int)]) w' ∧ MapE kv w' b g k c ∧ w.grownBy w' (some b) ∧ w'.heap.size = w.heap.size := by
  obtain ⟨es, clock, hb, hs, hks, hg⟩ := h
  have hks' : ∀ x ∈ es.toList, IsKey d x.key := fun x hx => let ⟨k, e⟩ := hks x hx; e ▸ V.key k
  rcases findNow_spec (V.key k) es.toList 0 hks' with ⟨h1, h2⟩ | ⟨j, e, h1, h2, h3⟩
  · refine ⟨{ w with heap := w.heap.setIfInBounds b (.map (es.push { key := kv k, val := z, born := clock }) (clock + 1)) }, z, clock, ?_, ⟨_, _, (heap_set hb).1, stamped_push hs h2, ?_, ?_, es.size, { key := kv k, val := z, born := clock }, by simp, rfl, rfl⟩, grownBy_set b _ hb, by simp⟩
    · simp [Instr.mapEntry, run_underlying ht, Go.MapKept.run_getObj_map hb, run_checkKey hd (V.key k), run_findKey hd h1, hz, Go.MapKept.run_setObj_map _ hb, Result.andThen]
    · intro x hx
      simp only [Array.toList_push, List.mem_append, List.mem_singleton] at hx
      rcases hx with hx | rfl
      · exact hks x hx
      · exact ⟨k, rfl⟩
    · intro k' v' hk
      simp only [Array.toList_push, List.mem_append, List.mem_singleton]
      rw [hg]
      constructor
      · rintro ⟨x, hx, h4⟩; exact ⟨x, .inl hx, h4⟩
      · rintro ⟨x, hx | rfl, h4, h5⟩
        · exact ⟨x, hx, h4, h5⟩
        · exact absurd (V.inj _ _ h4).symm hk
  · have hj : es[j]? = some e := by simpa using h2
    have hjl : j < es.size := (Array.getElem?_eq_some_iff.1 hj).1
    have hej : es[j] = e := by rw [Array.getElem?_eq_getElem hjl] at hj; exact Option.some.inj hj
    have hkey : ∀ e', es[j]? = some e' → ({ e' with key := kv k } : MapEntry).key = e'.key := fun e' he' => by rw [hj] at he'; cases he'; exact h3.symm
    have hsame : es.modify j (fun e => { e with key := kv k }) = es := by
      apply Array.ext (by simp)
      intro i h4 h5
      rw [Array.getElem_modify]
      split
      · rename_i hji; subst hji; rw [hej, ← h3]
      · rfl
    refine ⟨{ w with heap := w.heap.setIfInBounds b (.map es clock) }, e.val, e.born, ?_, ⟨_, _, (heap_set hb).1, hs, hks, fun k' v' _ => hg k' v', j, e, hj, h3, rfl⟩, grownBy_set b _ hb, by simp⟩
    simp [Instr.mapEntry, run_underlying ht, Go.MapKept.run_getObj_map hb, run_checkKey hd (V.key k), run_findKey hd h1, hj, h3, run_keyThatStays (V.key k), Go.MapKept.run_setObj_map _ hb, Result.andThen, hsame]
theorem MapE.store [DecidableEq κ] {k : κ} {c : Nat} (h : MapE kv w b g k c) (V : KV kv d) (v : Value) :
    ∃ w', (Instr.entryStore t (.map (some b)) (goInt (c : Int)) v).run P w = .ok () w' ∧ MapIs kv w' b (upd g k (some v)) ∧ w.grownBy w' (some b) ∧ w'.heap.size = w.heap.size := by
  obtain ⟨es, clock, hb, hs, hks, hg, j, e, hj, h3, h4⟩ := h
  have hjl : j < es.size := (Array.getElem?_eq_some_iff.1 hj).1
  have hej : es[j] = e := by rw [Array.getElem?_eq_getElem hjl] at hj; exact Option.some.inj hj
  have hborn : ∀ (p q : Nat) (hp : p < es.size) (hq : q < es.size), p < q → es[p].born ≠ es[q].born := fun p q hp hq hpq => by
    have := List.pairwise_iff_getElem.1 hs.2.1 p q (by simpa using hp) (by simpa using hq) hpq
    simpa using this
  have hkeys : ∀ (p q : Nat) (hp : p < es.size) (hq : q < es.size), p < q → es[p].key ≠ es[q].key := fun p q hp hq hpq => by
    have := List.pairwise_iff_getElem.1 hs.2.2 p q (by simpa using hp) (by simpa using hq) hpq
    simpa using this
  have hf : es.findIdx? (fun e => (e.born : Int) == (c : Int)) = some j := by
    rw [Array.findIdx?_eq_some_iff_getElem]
    refine ⟨hjl, by rw [hej, h4]; simp, fun i hi => ?_⟩
    have := hborn i j (by omega) hjl hi
    rw [hej, h4] at this
    simp; omega
  have huniq : ∀ i (hi : i < es.size), es[i].key = kv k → i = j := fun i hi he => by
    rcases Nat.lt_trichotomy i j with h5 | h5 | h5
    · exact absurd (he.trans (h3.symm.trans (by rw [hej]))) (hkeys i j hi hjl h5)
    · exact h5
    · exact absurd ((show es[j].key = kv k by rw [hej, h3]).trans he.symm) (hkeys j i hjl hi h5)
  refine ⟨{ w with heap := w.heap.setIfInBounds b (.map (es.modify j fun e => { e with val := v }) clock) }, ?_, ⟨_, _, (heap_set hb).1, stamped_modify hs _ _ (fun _ _ => rfl) (fun _ _ _ => rfl), ?_, ?_⟩, grownBy_set b _ hb, by simp⟩
  · simp [Instr.entryStore, Go.MapKept.run_getObj_map hb, goInt, asInt, asIntOf, hf, Go.MapKept.run_setObj_map _ hb, Result.andThen]
  · intro x hx
    obtain ⟨i, hi, rfl⟩ := List.mem_iff_getElem.1 hx
    simp only [Array.length_toList, Array.size_modify] at hi
    simp only [Array.getElem_toList, Array.getElem_modify]
    split
    · exact hks es[i] (by simp)
    · exact hks _ (by simp)
  · intro k' v'
    simp only [upd]
    by_cases hk : k' = k
    · subst hk
      rw [if_pos rfl]
      constructor
      · intro e'; cases e'
        refine ⟨(es.modify j fun e => { e with val := v })[j]'(by simpa using hjl), Array.getElem_mem_toList _, ?_, ?_⟩ <;> rw [Array.getElem_modify, if_pos rfl]
        rw [hej, h3]
      · rintro ⟨x, hx, h5, h6⟩
        obtain ⟨i, hi, rfl⟩ := List.mem_iff_getElem.1 hx
        simp only [Array.length_toList, Array.size_modify] at hi
        simp only [Array.getElem_toList, Array.getElem_modify] at h5 h6
        by_cases hij : j = i
        · rw [if_pos hij] at h6; rw [← h6]
        · rw [if_neg hij] at h5
          exact absurd (huniq i hi h5).symm hij
    · rw [if_neg hk, hg k' v' hk]
      constructor
      · rintro ⟨x, hx, h5, h6⟩
        obtain ⟨i, hi, rfl⟩ := List.mem_iff_getElem.1 hx
        simp only [Array.length_toList] at hi
        simp only [Array.getElem_toList] at h5 h6
        have hij : j ≠ i := fun e' => by subst e'; rw [hej, h3] at h5; exact hk (V.inj _ _ h5).symm
        refine ⟨(es.modify j fun e => { e with val := v })[i]'(by simpa using hi), Array.getElem_mem_toList _, ?_, ?_⟩ <;> simp only [Array.getElem_modify, if_neg hij] <;> assumption
      · rintro ⟨x, hx, h5, h6⟩
        obtain ⟨i, hi, rfl⟩ := List.mem_iff_getElem.1 hx
        simp only [Array.length_toList, Array.size_modify] at hi
        simp only [Array.getElem_toList, Array.getElem_modify] at h5 h6
        by_cases hij : j = i
        · rw [if_pos hij] at h5
          subst hij
          rw [hej, h3] at h5
          exact absurd (V.inj _ _ h5).symm hk
        · rw [if_neg hij] at h5 h6
          exact ⟨es[i], by simp, h5, h6⟩
end
end Go.Proofs.YtfajkmmmmmfhiaaGreatDoor
namespace Go.Proofs.YtfajkmmmmmfhiaaGreatDoor
open Go.RowKit
section
variable {base c1 q : Nat} {s : SP} {p : GP} {F K : Int → Int} {clock : Int} {a l : List Int} {w : World}
structure KeepS (s : SP) (W : World) where
  world : World
  size : W.heap.size ≤ world.heap.size
  block : ∀ i, i < W.heap.size → i ≠ s.bf → i ≠ s.bk → world.heap[i]? = W.heap[i]?
instance instKeepS (s : SP) (W : World) : Nonempty (KeepS s W) := ⟨⟨W, Nat.le_refl _, fun _ _ _ _ => rfl⟩⟩
theorem KeepS.cell {W : World} (e : KeepS s W) (b o : Nat) (hb : b < W.heap.size) (h1 : b ≠ s.bf) (h2 : b ≠ s.bk) : e.world.cell? ⟨b, o, none⟩ = W.cell? ⟨b, o, none⟩ := World.cell?_of_block (e.block b hb h1 h2)
end
end Go.Proofs.YtfajkmmmmmfhiaaGreatDoor
