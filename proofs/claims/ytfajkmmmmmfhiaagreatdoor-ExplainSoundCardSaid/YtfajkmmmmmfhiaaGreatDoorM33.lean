/- My texts St1, RowK, St2, St3, Stb2, St5, IsD, Sd41, merged. -/
import Derived.Test.YtfajkmmmmmfhiaaGreatDoorM32
import Derived.Test.YtfajkmmmmmfhiaaGreatDoorM24
import Derived.Test.YtfajkmmmmmfhiaaGreatDoorM07
import Derived.Test.YtfajkmmmmmfhiaaGreatDoorM06
import Derived.Test.YtfajkmmmmmfhiaaGreatDoorM05
import Derived.Test.YtfajkmmmmmfhiaaGreatDoorM04
import Derived.Test.YtfajkmmmmmfhiaaGreatDoorM22
import Derived.Test.YtfajkmmmmmfhiaaGreatDoorM03
import Derived.Test.YtfajkmmmmmfhiaaGreatDoorM00
import Derived.Test.YtfajkmmmmmfhiaaGreatDoorProg
import Derived.WalkKit
import Derived.Lib.Hide
import Derived.Deep.QuietTactic
import Derived.BigQuiet
import Derived.WalkSpells
import Derived.Lib.SliceRun
import Derived.MapKept
import Derived.Maps.OwnSet
import Derived.Maps.OwnOps
import Derived.Test.YtfajkmmmmmfhiaaGreatDoorM02
import Derived.Test.YtfajkmmmmmfhiaaGreatDoorM20
import Derived.Test.YtfajkmmmmmfhiaaGreatDoorM01
import Derived.Deep.AppendLies
import Derived.Lib.Bytealg
import Derived.Deep.DeepCutAuto
import Derived.Laws.EntriesVeiled
import Derived.Deep.RegionWith
import Derived.Deep.OwnRows
import Derived.RangeFuncNested
import Derived.RangeFuncBound
import Derived.RangeFuncCalls
import Derived.RangeFuncLeaves
import Derived.OwnWalkIn
import Derived.TacticsInMore
import Derived.LoopNIn
import Derived.LoopIn
import Derived.Stop.RegionWithIn
import Derived.Shelf.Abstract
import Derived.Test.YtfajkmmmmmfhiaaGreatDoorM23
import Derived.Deep.LoopGhost
import Derived.Deep.DrawnRows
import Derived.Test.YtfajkmmmmmfhiaaGreatDoorM15
import Derived.Test.YtfajkmmmmmfhiaaGreatDoorM09
import Derived.Deep.AppendSrc
import Derived.Test.YtfajkmmmmmfhiaaGreatDoorM12
import Derived.Test.YtfajkmmmmmfhiaaGreatDoorM14
import Derived.Sort.QuietThIn
import Derived.Maps.RangeWalk
import Derived.Lib.SlicesCompact
import Derived.Shelf.Sort.Plain
import Derived.Shelf.Slices.CompactI
import Derived.Shelf.Slices.In.SortNone
import Derived.Shelf.Strconv.Itoa3
import Derived.Shelf.Strings.BuilderK
import Derived.Shelf.Slices.SearchI
import Derived.Shelf.Slices.Empties
import Derived.Sort.OwnSortedInts
import Derived.RangeFuncBox
import Derived.Maps.OwnIn
import Derived.Lib.RowBridge
import Derived.Test.YtfajkmmmmmfhiaaGreatDoorM11
import Derived.Deep.DeepMust
import Derived.Test.YtfajkmmmmmfhiaaGreatDoorM13
import Derived.Test.YtfajkmmmmmfhiaaGreatDoorM17
import Derived.ProofKit
import Derived.OpenShut
import Derived.ChangeArms
import Derived.SizedLaws
import Derived.Test.YtfajkmmmmmfhiaaGreatDoorM26
import Derived.Test.YtfajkmmmmmfhiaaGreatDoorM25
import Derived.Deep.RegionHeld3
import Derived.Laws.ResultCell
import Derived.Laws.Rows
import Derived.Deep.RegionLaw
import Derived.Sort.CutIn
import Derived.Test.YtfajkmmmmmfhiaaGreatDoorM27
import Derived.Test.YtfajkmmmmmfhiaaGreatDoorM16
import Derived.Test.YtfajkmmmmmfhiaaGreatDoorM08
import Derived.Test.YtfajkmmmmmfhiaaGreatDoorM10
import Derived.Lib.ItoaNum

namespace Go.Proofs.YtfajkmmmmmfhiaaGreatDoor
open Go.RowKit
set_option maxHeartbeats 1000000 in
theorem sat11_any (S : List Int) (b : Nat) (vs : Value) (x : Int) (w : World) (h : Blk w b [vs] 23) (hS : Ints w vs S) :
    Calls Tryz.prog 196 #[.int .i64 x, .pointer (some ⟨b, 0, none⟩)] w fun e w' => e = .returned (.bool (decide (x ∈ S))) ∧ w = w' := by
  obtain ⟨a4, c4, rfl, -, hl4, -, -⟩ := hS.form
  have k0 := h.cell 0
  have HS := Lib.hid hS
  clear h hS
  go_enter Tryz.func196, Tryz.ntmps196
  go_wp2_with (go_at_call 57; (with_reducible refine (contains_any _ _ x _ HS.out).mono ?_); rintro e w1 ⟨rfl, rfl⟩)
  go_ret
  exact ⟨rfl, rfl⟩
set_option maxHeartbeats 1000000 in
theorem idx_stm (v : Value) (l : List Int) (w : World) (h : Ints w v l) (g : Nat → Bool) (cap : Value)
    (hg : ∀ w', Below w.heap.size w w' → ∀ j, j < l.length → Calls Tryz.prog 196 #[.int .i64 (ix l j), cap] w' fun e w'' => e = .returned (.bool (g j)) ∧ Below w'.heap.size w' w'') :
    Calls Tryz.prog 108 #[v, .func (.func 196) #[] #[cap]] w fun e w' => ∃ r, e = .returned (.int .i64 r) ∧ IxP l.length g r ∧ Below w.heap.size w w' := by
  obtain ⟨a1, c1, rfl, -, hl1, -, hcell⟩ := h.form
  have HG := Lib.hid hg
  clear h hg
  go_enter Tryz.func108, Tryz.ntmps108
  go_wp2
  go_loopw [8] (fun i wx => IxR l.length g w i wx) (fun i _ => l.length - (intOf i).toNat)
  case atStart => exact ⟨0, by omega, rfl, fun j hj => absurd hj (Nat.not_lt_zero _), Below.refl _ _⟩
  case round =>
    obtain ⟨k, hk, rfl, hall, hb⟩ := hrel
    have HA := Lib.hid hall
    clear hall
    by_cases hlt : k < l.length
    · obtain ⟨b, off, rfl, hbl, hc⟩ := hcell (by omega)
      have hk1 := (bcell hb _ _ hbl).trans (hc k hlt)
      clear hc hcell
      cases g1 : g k with
      | true =>
        have HK : Hid (_ = true) := Lib.hid g1
        have HC := Lib.hid (HG.out _ hb k hlt)
        rw [g1] at HC
        clear g1
        go_wp2_with (go_at_call 196; refine (HC.out).mono ?_; rintro e w1 ⟨rfl, hb1⟩)
        go_ret
        exact ⟨_, rfl, .inr ⟨k, hlt, rfl, HK.out, HA.out⟩, bon hb hb1⟩
      | false =>
        have HN := Lib.hid (lt_succ_all HA.out g1)
        have HC := Lib.hid (HG.out _ hb k hlt)
        rw [g1] at HC
        clear g1
        go_wp2_with (go_at_call 196; refine (HC.out).mono ?_; rintro e w1 ⟨rfl, hb1⟩)
        first
          | (go_roundw
             case rel => (exact ⟨k + 1, by omega, by go_num, HN.out, bon hb hb1⟩)
             case measure => (simp [intOf]; omega))
          | (refine ⟨?_, ?_⟩
             · (exact ⟨k + 1, by omega, by go_num, HN.out, bon hb hb1⟩)
             · (simp [intOf]; omega))
    · have HN : Hid (∀ j, j < l.length → g j = false) := Lib.hid (fun j hj => HA.out j (by omega))
      go_wp2
      go_ret
      exact ⟨_, rfl, .inl ⟨rfl, HN.out⟩, hb⟩
set_option maxHeartbeats 1000000 in
theorem ctn_stm (v : Value) (l : List Int) (w : World) (h : Ints w v l) (g : Nat → Bool) (cap : Value)
    (hg : ∀ w', Below w.heap.size w w' → ∀ j, j < l.length → Calls Tryz.prog 196 #[.int .i64 (ix l j), cap] w' fun e w'' => e = .returned (.bool (g j)) ∧ Below w'.heap.size w' w'') :
    Calls Tryz.prog 76 #[v, .func (.func 196) #[] #[cap]] w fun e w' => e = .returned (.bool (anyR l.length g)) ∧ Below w.heap.size w w' := by
  have HI := Lib.hid (idx_stm v l w h g cap hg)
  obtain ⟨a1, c1, rfl, -⟩ := h.form
  clear h hg
  go_enter Tryz.func76, Tryz.ntmps76
  go_wp2_with (go_at_call 108; refine (HI.out).mono ?_; rintro e w1 ⟨r, rfl, hr, hb1⟩; have HR := Lib.hid hr; clear hr)
  go_ret
  exact ⟨ret_bool HR.out.any, hb1⟩
theorem satT_not (r : GR) (S : List Int) : (!satT r S) = (!r.choice && bodyT r S && !anyR r.head.length (fun j => decide (ix r.head j ∈ S))) := by
  unfold satT
  cases r.choice <;> cases bodyT r S <;> simp
set_option maxHeartbeats 4000000 in
set_option maxRecDepth 100000 in
theorem sat1_any (S : List Int) (b : Nat) (vs v : Value) (r : GR) (n : Int) (w : World) (hr : RuleIs w v r) (h : Blk w b [vs] 23) (hS : Ints w vs S) (hml : S.length ≤ 1000000000) (hok : BodyV r n) :
    Calls Tryz.prog 195 #[v, .pointer (some ⟨b, 0, none⟩)] w fun e w' => e = .returned (.bool (!satT r S)) ∧ Below w.heap.size w w' := by
  obtain ⟨vh, vb, vw, rfl, hsl⟩ := hr
  obtain ⟨a4, c4, rfl, -, hl4, -, -⟩ := hS.form
  obtain ⟨ah, ch, rfl, -, hlh, -, -⟩ := hsl.head.form
  have hal := bal (Below.refl w.heap.size w) (.cells #[.bool r.choice, .slice ah r.head.length ch, .bool r.sum, .int .i64 r.bound, vb, vw] 60)
  have HAL := Lib.hid hal
  have HBX := Lib.hid (Blk.new w [.bool r.choice, .slice ah r.head.length ch, .bool r.sum, .int .i64 r.bound, vb, vw] 60)
  have kr := HBX.out.cell
  have hlr := HBX.out.lt
  have HRU : Hid (RuleIs _ (.agg #[.bool r.choice, .slice ah r.head.length ch, .bool r.sum, .int .i64 r.bound, vb, vw]) r) := Lib.hid ⟨_, _, _, rfl, hsl.below hal⟩
  have HHI := Lib.hid (hsl.head.below hal)
  have HMB := Lib.hid (h.below hal)
  have HSI := Lib.hid (hS.below hal)
  have HOK := Lib.hid hok
  have kb := (h.below hal).cell 0
  have hlb := (h.below hal).lt
  have HF := Lib.hid (satT_not r S)
  clear hsl h hS hok hal
  go_enter Tryz.func195, Tryz.ntmps195
  go_upto_region 1 with fail
  generalize w.alloc (.cells #[.bool r.choice, .slice ah r.head.length ch, .bool r.sum, .int .i64 r.bound, vb, vw] 60) = W0 at *
  cases hc : r.choice with
  | true =>
    rw [hc] at kr HF
    clear hc
    go_wp2
    go_ret
    exact ⟨ret_bool HF.out.symm, HAL.out⟩
  | false =>
    rw [hc] at kr HF HRU
    clear hc
    cases hbt : bodyT r S with
    | false =>
      rw [hbt] at HF
      have HBT := Lib.hid hbt
      clear hbt
      go_wp2_with (go_at_call 32; (with_reducible refine (rBody_any _ _ r S _ HRU.out HSI.out hml HOK.out).mono ?_); rintro e w2 ⟨e2, hb2⟩; rw [HBT.out] at e2; subst e2; have HB2 := Lib.hid (bon HAL.out hb2); have kr2 := fun o => (bcell hb2 _ o hlr).trans (kr o); have HBV := Lib.hid (HMB.out.below hb2); have HS2 := Lib.hid (HSI.out.below hb2); have HH2 := Lib.hid (HHI.out.below hb2); have hl2 := Nat.lt_of_lt_of_le hlr hb2.size; clear hb2)
      go_ret
      exact ⟨ret_bool HF.out.symm, HB2.out⟩
    | true =>
      rw [hbt] at HF
      have HBT := Lib.hid hbt
      clear hbt
      go_wp2_with (first
        | (go_at_call 76; (with_reducible refine (ctn_stm _ r.head w2 HH2.out (fun j => decide (ix r.head j ∈ S)) (.pointer (some ⟨b, 0, none⟩)) (fun w' hb' j _ => (sat11_any S b _ (ix r.head j) w' (HBV.out.below hb') (HS2.out.below hb')).mono fun e w'' ⟨h1, h2⟩ => ⟨h1, h2 ▸ Below.refl _ _⟩)).mono ?_); rintro e w3 ⟨rfl, hb3⟩; have HB3 := Lib.hid (bon HB2.out hb3); clear hb3)
        | (go_at_call 32; (with_reducible refine (rBody_any _ _ r S _ HRU.out HSI.out hml HOK.out).mono ?_); rintro e w2 ⟨e2, hb2⟩; rw [HBT.out] at e2; subst e2; have HB2 := Lib.hid (bon HAL.out hb2); have kr2 := fun o => (bcell hb2 _ o hlr).trans (kr o); have HBV := Lib.hid (HMB.out.below hb2); have HS2 := Lib.hid (HSI.out.below hb2); have HH2 := Lib.hid (HHI.out.below hb2); have hl2 := Nat.lt_of_lt_of_le hlr hb2.size; clear hb2))
      go_ret
      exact ⟨ret_bool HF.out.symm, HB3.out⟩
section
variable {B k x : Nat} {live live' : Nat → Option (List Int)} {vals : Nat → Value} {wx wy : World} {v : Value} {l lx : List Int}
theorem qrow_box {y : Int} (hy : InI y) (wx : World) : QRow wx.heap.size (wx.alloc (.cells #[.int .i64 y] 3)) (.slice (some ⟨wx.heap.size, 0, none⟩) 1 1) [y] :=
  ⟨fitI (by simpa using hy), .inr ⟨_, 0, 1, #[.int .i64 y], rfl, Nat.le_refl _, heap_alloc_new wx _, by simp, by unfold maxLen; omega, by simp, fun i hi => by
    obtain rfl : i = 0 := by simpa using hi
    rfl⟩⟩
end
set_option maxHeartbeats 1000000 in
theorem idxR_stm (v : Value) (l : List GR) (w : World) (h : RulesIs w v l) (g : Nat → Bool) (cap : Value)
    (hg : ∀ w', Below w.heap.size w w' → ∀ j, j < l.length → ∀ u, RuleIs w' u (ixR l j) → Calls Tryz.prog 195 #[u, cap] w' fun e w'' => e = .returned (.bool (g j)) ∧ Below w'.heap.size w' w'') :
    Calls Tryz.prog 52 #[v, .func (.func 195) #[] #[cap]] w fun e w' => ∃ r, e = .returned (.int .i64 r) ∧ IxP l.length g r ∧ Below w.heap.size w w' := by
  obtain ⟨a1, c1, rfl, -, hl1, -, hcell⟩ := h.form
  have HG := Lib.hid hg
  clear h hg
  go_enter Tryz.func52, Tryz.ntmps52
  go_wp2
  go_loopw [8] (fun i wx => IxR l.length g w i wx) (fun i _ => l.length - (intOf i).toNat)
  case atStart => exact ⟨0, by omega, rfl, fun j hj => absurd hj (Nat.not_lt_zero _), Below.refl _ _⟩
  case round =>
    obtain ⟨k, hk, rfl, hall, hb⟩ := hrel
    have HA := Lib.hid hall
    clear hall
    by_cases hlt : k < l.length
    · obtain ⟨b, off, rfl, hbl, hc⟩ := hcell (by omega)
      obtain ⟨vh, vb, vw, ⟨k0, k1, k2, k3, k4, k5⟩, hsl⟩ := hc k hlt
      have hbr := hsl.below hb
      have hk0 := (bcell hb _ _ hbl).trans k0
      have hk1 := (bcell hb _ _ hbl).trans k1
      have hk2 := (bcell hb _ _ hbl).trans k2
      have hk3 := (bcell hb _ _ hbl).trans k3
      have hk4 := (bcell hb _ _ hbl).trans k4
      have hk5 := (bcell hb _ _ hbl).trans k5
      have HRU : Hid (RuleIs wr (.agg #[.bool (ixR l k).choice, vh, .bool (ixR l k).sum, .int .i64 (ixR l k).bound, vb, vw]) (ixR l k)) := Lib.hid ⟨vh, vb, vw, rfl, hbr⟩
      clear hc hcell k0 k1 k2 k3 k4 k5 hsl hbr
      cases g1 : g k with
      | true =>
        have HK : Hid (_ = true) := Lib.hid g1
        have HC := Lib.hid (HG.out _ hb k hlt _ HRU.out)
        rw [g1] at HC
        clear g1
        go_wp2_with (go_at_call 195; refine (HC.out).mono ?_; rintro e w1 ⟨rfl, hb1⟩)
        go_ret
        exact ⟨_, rfl, .inr ⟨k, hlt, rfl, HK.out, HA.out⟩, bon hb hb1⟩
      | false =>
        have HN := Lib.hid (lt_succ_all HA.out g1)
        have HC := Lib.hid (HG.out _ hb k hlt _ HRU.out)
        rw [g1] at HC
        clear g1
        go_wp2_with (go_at_call 195; refine (HC.out).mono ?_; rintro e w1 ⟨rfl, hb1⟩)
        first
          | (go_roundw
             case rel => (exact ⟨k + 1, by omega, by go_num, HN.out, bon hb hb1⟩)
             case measure => (simp [intOf]; omega))
          | (refine ⟨?_, ?_⟩
             · (exact ⟨k + 1, by omega, by go_num, HN.out, bon hb hb1⟩)
             · (simp [intOf]; omega))
    · have HN : Hid (∀ j, j < l.length → g j = false) := Lib.hid (fun j hj => HA.out j (by omega))
      go_wp2
      go_ret
      exact ⟨_, rfl, .inl ⟨rfl, HN.out⟩, hb⟩
set_option maxHeartbeats 1000000 in
theorem ctnR_stm (v : Value) (l : List GR) (w : World) (h : RulesIs w v l) (g : Nat → Bool) (cap : Value)
    (hg : ∀ w', Below w.heap.size w w' → ∀ j, j < l.length → ∀ u, RuleIs w' u (ixR l j) → Calls Tryz.prog 195 #[u, cap] w' fun e w'' => e = .returned (.bool (g j)) ∧ Below w'.heap.size w' w'') :
    Calls Tryz.prog 97 #[v, .func (.func 195) #[] #[cap]] w fun e w' => e = .returned (.bool (anyR l.length g)) ∧ Below w.heap.size w w' := by
  have HI := Lib.hid (idxR_stm v l w h g cap hg)
  obtain ⟨a1, c1, rfl, -⟩ := h.form
  clear h hg
  go_enter Tryz.func97, Tryz.ntmps97
  go_wp2_with (go_at_call 52; refine (HI.out).mono ?_; rintro e w1 ⟨r, rfl, hr, hb1⟩; have HR := Lib.hid hr; clear hr)
  go_ret
  exact ⟨ret_bool HR.out.any, hb1⟩
set_option maxHeartbeats 2000000 in
theorem satf_any (vr vm : Value) (R : List GR) (S : List Int) (n : Int) (w : World) (hR : RulesIs w vr R) (hS : Ints w vm S) (hml : S.length ≤ 1000000000) (hok : ∀ q, q < R.length → BodyV (ixR R q) n) :
    Calls Tryz.prog 171 #[vr, vm] w fun e w' => e = .returned (.bool (satR R S)) ∧ Below w.heap.size w w' := by
  obtain ⟨a1, c1, rfl, -, hl1, -, -⟩ := hR.form
  obtain ⟨a2, c2, rfl, -⟩ := hS.form
  have hal := bal (Below.refl w.heap.size w) (.cells #[.slice a2 S.length c2] 23)
  have HAL := Lib.hid hal
  have hbx := Blk.new w [.slice a2 S.length c2] 23
  have HC := Lib.hid (ctnR_stm _ R _ (hR.below hal) (fun j => !satT (ixR R j) S) (.pointer (some ⟨w.heap.size, 0, none⟩)) (fun w' hb' j hj u hu => sat1_any S w.heap.size _ u (ixR R j) n w' hu (hbx.below hb') ((hS.below hal).below hb') hml (hok j hj)))
  have HSR := Lib.hid (satR_any R S)
  clear hR hS hal hbx hok
  go_enter Tryz.func171, Tryz.ntmps171
  go_wp2_with (go_at_call 97; (with_reducible refine (HC.out).mono ?_); rintro e w1 ⟨rfl, hb1⟩; have HB1 := Lib.hid (bon HAL.out hb1); clear hb1)
  go_ret
  exact ⟨ret_bool HSR.out, HB1.out⟩
set_option maxHeartbeats 1000000 in
theorem subsets_any (a : Option Addr) (n c : Nat) (w : World) :
    Calls Tryz.prog 91 #[.slice a n c] w fun e w' => e = .returned (.func (.func 137) #[] #[.pointer (some ⟨w.heap.size, 0, none⟩)]) ∧ Below w.heap.size w w' ∧ Blk w' w.heap.size [.slice a n c] 23 := by
  have HB := Lib.hid (bal (Below.refl w.heap.size w) (.cells #[.slice a n c] 23))
  have HN := Lib.hid (Blk.new w [.slice a n c] 23)
  go_enter Tryz.func91, Tryz.ntmps91
  go_wp2
  go_ret
  exact ⟨rfl, HB.out, HN.out⟩
theorem sh_wrap2 : ∀ N : Nat, N < 13 → wrap64 (2 ^ N) = ((2 ^ N : Nat) : Int) ∧ 2 ^ N ≤ 4096 := by
  intro N hN
  have h2 : 2 ^ N ≤ 2 ^ 12 := Nat.pow_le_pow_right (by omega) (by omega)
  have h3 : (2 : Int) ^ N = ((2 ^ N : Nat) : Int) := by push_cast; rfl
  refine ⟨?_, by omega⟩
  rw [h3]
  generalize 2 ^ N = T at *
  unfold wrap64
  omega
theorem sbTo_next (m : List Int) (k j : Nat) : sbTo m k (j + 1) = if bitAt k j then sbTo m k j ++ [ix m j] else sbTo m k j := rfl
def SbO (T : Nat) (n0 : Nat) (Sx : List Nat) (W0 : World) (J : List (Nat × Value) → World → Prop) (i : Value) (wr : World) : Prop :=
  ∃ (k : Nat) (pre : List (Nat × Value)), k ≤ T ∧ i = .int .i64 k ∧ pre.map (·.1) = List.range k ∧ J pre wr ∧ Lim n0 Sx W0 wr
def SbI (m : List Int) (k : Nat) (Wq : World) (o i : Value) (wr : World) : Prop :=
  ∃ j : Nat, j ≤ m.length ∧ i = .int .i64 j ∧ (∃ a n c, o = .slice a n c) ∧ QRow Wq.heap.size wr o (sbTo m k j) ∧ Below Wq.heap.size Wq wr
set_option maxHeartbeats 4000000 in
set_option maxRecDepth 100000 in
theorem subs_stops (m : List Int) (w0 : World) (mb : Nat) (a0 : Option Addr) (c0 : Nat) (Sx : List Nat) (hK : ∀ W', Lim w0.heap.size Sx w0 W' → Blk W' mb [.slice a0 m.length c0] 23 ∧ Ints W' (.slice a0 m.length c0) m) (hml : m.length ≤ 12) (n : Nat) (hn : 1 ≤ n) :
    SeqStopsR Fence.wide n Tryz.prog 137 #[.pointer (some ⟨mb, 0, none⟩)] (fun x : Nat × Value => #[x.2]) (fun A B => Lim w0.heap.size Sx A B) (fun x W => QRow w0.heap.size W x.2 (sbL m x.1))
      (fun xs => xs.map (·.1) = List.range (2 ^ m.length)) (fun pre => ∃ k, k < 2 ^ m.length ∧ pre.map (·.1) = List.range (k + 1)) (2 ^ m.length) w0 := by
  intro l J Jx W hW hJ hJx hY h0
  have HK := Lib.hid hK
  have HY := Lib.hid hY
  have HJ := Lib.hid hJ
  have H0 := Lib.hid h0
  have HW := Lib.hid hW
  have hzW := hW.size
  have k0 := (hK W (.of_below hW (Nat.le_refl _))).1.cell 0
  obtain ⟨hsh, hT⟩ := sh_wrap2 m.length (by omega)
  obtain ⟨T, hTT⟩ : ∃ T : Nat, 2 ^ m.length = T := ⟨_, rfl⟩
  rw [hTT] at hsh hT HY
  have HTT := Lib.hid hTT
  clear hK hY hJ hJx h0 hW hTT
  refine callsIn_of_wp Tryz.func137 rfl trivial ?_ rfl
  simp only [Tryz.ntmps137, List.size_toArray, List.length_cons, List.length_nil, Nat.reduceAdd, Nat.reduceSub, Array.replicate_succ, Array.replicate_zero, List.push_toArray, List.append_toArray, List.nil_append, List.cons_append]
  gi_wp2
  (try rw [hsh])
  clear hsh k0
  gi_loopw [10] (fun i wr => SbO T w0.heap.size Sx W J i wr) (fun i _ => T - (intOf i).toNat)
  case atStart => exact ⟨0, [], Nat.zero_le _, rfl, rfl, H0.out, Lim.refl _ _ _⟩
  case round =>
    obtain ⟨k, pre, hk, rfl, hpre, hj, hlim⟩ := hrel
    have HJR := Lib.hid hj
    have HPRE := Lib.hid hpre
    have HLIM := Lib.hid hlim
    have hlim0 : Lim w0.heap.size Sx w0 wr := (Lim.of_below HW.out (Nat.le_refl _)).trans hlim
    obtain ⟨hmb, hmi⟩ := HK.out wr hlim0
    have HMB := Lib.hid hmb
    have HMI := Lib.hid hmi
    have hzr := hlim0.size
    have k1 := hmb.cell 0
    clear hj hpre hlim hlim0 hmb hmi
    by_cases hlt : k < T
    · gi_upto_region 5 with fail
      clear k1
      generalize wr = wq at *
      gi_loopw [4, 15] (fun o i wx => SbI m k wq o i wx) (fun _ i _ => m.length - (intOf i).toNat)
      case atStart => exact ⟨0, Nat.zero_le _, rfl, ⟨_, _, _, rfl⟩, QRow.nil _ _, Below.refl _ _⟩
      case round =>
        obtain ⟨j, hj, rfl, ⟨ao, no, co, rfl⟩, hq, hb⟩ := hrel
        have HQ := Lib.hid hq
        have HB := Lib.hid hb
        have hln := sbTo_len m k j
        have hzx := hb.size
        by_cases hjl : j < m.length
        · obtain ⟨b, o, e, hbl, hc⟩ := (HMI.out.below hb).at hjl
          subst e
          have hxI : InI (ix m j) := HMI.out.2 j
          have HXI := Lib.hid hxI
          have hbt := bit_test (bits := (k : Int)) (k := j)
          have hmin : min j 64 = j := Nat.min_eq_left (by omega)
          have HN := Lib.hid (sbTo_next m k j)
          clear hq hb hxI
          cases hbb : bitAt k j with
          | true =>
            rw [hbb] at hbt
            rw [hbb, if_pos rfl] at HN
            clear hbb
            have hal := bal (Below.refl wr.heap.size wr) (.cells #[.int .i64 (ix m j)] 3)
            have HQ2 := Lib.hid (HQ.out.below hal)
            have HI2 := Lib.hid ((qrow_box HXI.out wr).ints (by simp))
            clear hal
            gi_wp2_with (gi_at_builtin; refine wpListIn_appendQs rfl _ _ rfl wq.heap.size _ _ (sbTo m k j) [ix m j] rfl rfl HQ2.out HI2.out (by simp only [List.length_singleton]; omega) (by simp; omega) ?_; intro v5 w5 hq5 hg5 ho5; have hb5 := below_grown HB.out (fun g e => (HQ.out.base e).1) hg5; have HB5 := Lib.hid hb5; have HQ5 := Lib.hid hq5; obtain ⟨a5, n5, c5, rfl⟩ := hq5.form; clear hq5 hg5 ho5 hb5)
            first
              | (go_roundw
                 case rel => (exact ⟨j + 1, hjl, by go_num, ⟨_, _, _, rfl⟩, by rw [HN.out]; exact HQ5.out, HB5.out⟩)
                 case measure => (simp [intOf]; omega))
              | (refine ⟨?_, ?_⟩
                 · (exact ⟨j + 1, hjl, by go_num, ⟨_, _, _, rfl⟩, by rw [HN.out]; exact HQ5.out, HB5.out⟩)
                 · (simp [intOf]; omega))
          | false =>
            rw [hbb] at hbt
            rw [hbb, if_neg Bool.false_ne_true] at HN
            clear hbb
            gi_wp2
            first
              | (go_roundw
                 case rel => (exact ⟨j + 1, hjl, by go_num, ⟨_, _, _, rfl⟩, by rw [HN.out]; exact HQ.out, HB.out⟩)
                 case measure => (simp [intOf]; omega))
              | (refine ⟨?_, ?_⟩
                 · (exact ⟨j + 1, hjl, by go_num, ⟨_, _, _, rfl⟩, by rw [HN.out]; exact HQ.out, HB.out⟩)
                 · (simp [intOf]; omega))
        · obtain rfl : j = m.length := by omega
          have HLEN : Hid (pre.length < T) := Lib.hid (by
            have := congrArg List.length HPRE.out
            rw [List.length_map, List.length_range] at this
            omega)
          have hR0 : QRow w0.heap.size wr (.slice ao no co) (sbL m k) := HQ.out.mono hzr
          obtain ⟨fn, tmps, assign, body, hy, hR⟩ := HY.out pre (k, .slice ao no co) _ (AbidesFrom.below HJ.out HJR.out HB.out) hR0 HLEN.out
          have HL9 := Lib.hid (HLIM.out.trans (.of_below HB.out hzr))
          clear hq hb hR0 hln
          simp only at hy
          gi_wp2_with (refine hR.mono ?_; rintro e W6 h6; obtain ⟨bb, rfl, hbt, hbf⟩ := yieldEndR h6; have HBT := Lib.hid hbt; have HBF := Lib.hid hbf; clear hbt hbf h6)
          · cases bb with
            | false =>
              (try gi_wp2)
              refine bodyPost_ret (results_none rfl _ _ _) rfl ?_
              exact ⟨⟨_, rfl⟩, .inr ⟨pre ++ [(k, .slice ao no co)], ⟨k, by rw [HTT.out]; exact hlt, by rw [List.map_append, HPRE.out]; rfl⟩, (by first | exact HBF.out rfl | exact HBF.out trivial)⟩⟩
            | true => exact Bool.noConfusion ‹(!true) = true›
          · cases bb with
            | false => exact Bool.noConfusion ‹(!false) = false›
            | true =>
              first
                | (go_roundw
                   case rel => (exact ⟨k + 1, pre ++ [(k, .slice ao no co)], hlt, by go_num, by rw [List.map_append, HPRE.out, List.range_succ]; rfl, (HBT.out (by first | exact rfl | exact trivial)).1, HL9.out.trans (HBT.out (by first | exact rfl | exact trivial)).2⟩)
                   case measure => (simp [intOf]; omega))
                | (refine ⟨?_, ?_⟩
                   · (exact ⟨k + 1, pre ++ [(k, .slice ao no co)], hlt, by go_num, by rw [List.map_append, HPRE.out, List.range_succ]; rfl, (HBT.out (by first | exact rfl | exact trivial)).1, HL9.out.trans (HBT.out (by first | exact rfl | exact trivial)).2⟩)
                   · (simp [intOf]; omega))
    · obtain rfl : k = T := by omega
      gi_wp2
      go_end0
      exact ⟨⟨_, rfl⟩, .inl ⟨_, by rw [HPRE.out, HTT.out], HJR.out⟩⟩
attribute [local go_sem] Oper.semAt_some memUpon
theorem lim_below0 {n : Nat} {w w' : World} (h : Lim n [] w w') : Below n w w' := h.below (fun i hi => absurd hi (by simp))
theorem minIs_none {R : List GR} {m : List Int} {xs : List (Nat × Value)} (hp : xs.map (·.1) = List.range (2 ^ m.length)) (h : ∀ y ∈ xs, satR R (sbL m y.1) = false) : MinIs R m false := by
  refine .inr ⟨fun j hj => ?_, rfl⟩
  have : j ∈ xs.map (·.1) := by rw [hp]; exact List.mem_range.2 hj
  obtain ⟨y, hy, e⟩ := List.mem_map.1 this
  rw [← e]
  exact h y hy
set_option maxHeartbeats 4000000 in
set_option maxRecDepth 100000 in
theorem minimal_any (vr vm : Value) (R : List GR) (m : List Int) (n : Int) (w : World) (hR : RulesIs w vr R) (hm : Ints w vm m) (hml : m.length ≤ 12) (hok : ∀ q, q < R.length → BodyV (ixR R q) n) :
    Calls Tryz.prog 136 #[vr, vm] w fun e w' => ∃ b, e = .returned (.bool b) ∧ MinIs R m b ∧ Below w.heap.size w w' := by
  obtain ⟨a1, c1, rfl, -, hl1, -, -⟩ := hR.form
  obtain ⟨a4, c4, rfl, -, hl4, -, -⟩ := hm.form
  have HR := Lib.hid hR
  have HM := Lib.hid hm
  have HOK := Lib.hid hok
  clear hR hm hok
  refine (callsIn_wide (n := 6)).1 ?_
  refine callsIn_of_wp_marks Tryz.func136 rfl trivial ?_ rfl
  simp only [Tryz.ntmps136, List.size_toArray, List.length_cons, List.length_nil, Nat.reduceAdd, Nat.reduceSub, Array.replicate_succ, Array.replicate_zero, List.push_toArray, List.append_toArray, List.nil_append, List.cons_append]
  have bR := ((Blk.new w [.slice a1 R.length c1] 24).alloc (.cells #[.slice a4 m.length c4] 23)).alloc (.cells #[.bool false] 4)
  have bM := (Blk.new2 w (.cells #[.slice a1 R.length c1] 24) [.slice a4 m.length c4] 23).alloc (.cells #[.bool false] 4)
  have bC := Blk.new ((w.alloc (.cells #[.slice a1 R.length c1] 24)).alloc (.cells #[.slice a4 m.length c4] 23)) [.bool false] 4
  have hb0 : Below w.heap.size w (((w.alloc (.cells #[.slice a1 R.length c1] 24)).alloc (.cells #[.slice a4 m.length c4] 23)).alloc (.cells #[.bool false] 4)) := bal (bal (bal (Below.refl _ _) _) _) _
  have BR := Lib.hid bR
  have BM := Lib.hid bM
  have BC := Lib.hid bC
  have HB0 := Lib.hid hb0
  clear bR bM bC hb0
  gi_wp2_with (refine ⟨trivial, ?_⟩; gi_at_call 91; refine (callsIn_wide.2 (subsets_any _ _ _ _)).mono ?_; rintro e w1 ⟨rfl, hb1, hbm1⟩)
  have bR := BR.out.below hb1
  have bM := BM.out.below hb1
  have bC := BC.out.below hb1
  have hbw : Below w.heap.size w w1 := bon HB0.out hb1
  simp only [World.size_alloc] at hbm1 bC
  have hz := hbm1.lt
  clear hb1 BR BM BC HB0
  have HK : ∀ W', Lim w1.heap.size [] w1 W' → Blk W' (w.heap.size + 1 + 1 + 1) [.slice a4 m.length c4] 23 ∧ Ints W' (.slice a4 m.length c4) m := fun W' h => ⟨hbm1.below (lim_below0 h), (HM.out.below hbw).below (lim_below0 h)⟩
  refine wpIn_rangeFunc_ownR rfl (by omega) (gf := 137) (lb := #[.pointer (some ⟨w.heap.size + 1 + 1 + 1, 0, none⟩)]) rfl trivial (enters_of Tryz.func137 (by kernel_rfl) rfl)
    (subs_stops m w1 (w.heap.size + 1 + 1 + 1) a4 c4 [] HK hml 5 (by omega))
    (fun h k => h.trans k) (fun W l o o' hl h hc hw => .of_below (belowK_b (w := w1) (Nat.le_refl _) W l o o' hl h hc hw) (Nat.le_refl _)) (Below.refl _ _) (fun _ => rfl)
    (fun pre W => (∀ y ∈ pre, satR R (sbL m y.1) = false) ∧ Below w1.heap.size w1 W)
    (fun c pre W => MinR R m (w.heap.size + 1 + 1) c pre W ∧ Below w.heap.size w W)
    (OwnFrom.and (ownFrom_pure _ _) (ownFrom_below (Nat.le_refl _) (Nat.le_refl _)))
    (fun c => OwnFrom.and (MinR.own c) (ownFrom_below (Nat.le_refl _) (by omega)))
    ⟨by intro u hu; simp at hu, Below.refl _ _⟩
    (fun x a' W => QRow w1.heap.size W x.2 (sbL m x.1) ∧ a' = { tmps := #[.slice a1 R.length c1, .slice a4 m.length c4, .pointer (some ⟨w.heap.size, 0, none⟩), .pointer (some ⟨w.heap.size + 1, 0, none⟩), .pointer (some ⟨w.heap.size + 1 + 1, 0, none⟩), x.2, .slice a4 m.length c4, .func (.func 137) #[] #[.pointer (some ⟨w.heap.size + 1 + 1 + 1, 0, none⟩)], x.2, undef, undef, undef, undef, undef, undef, undef, undef], defers := [] })
    (fun x a' _ X Y row hs hg hr => ⟨hs.1.ownR hg (fun r e => (hr r e).2), hs.2⟩)
    ?assign ?body ?done ?stop
  case assign =>
    rintro l pre ⟨k, xv⟩ W K ⟨hall, hB⟩ hR hK
    obtain ⟨x1, x2, x3, rfl⟩ := hR.form
    have HRR := Lib.hid hR
    clear hR
    gi_wp2
    exact hK _ _ (KeepsFrom.refl _ _) (Lim.refl _ _ _) ⟨hall, hB⟩ ⟨HRR.out, rfl⟩
  case body =>
    rintro l pre ⟨k, xv⟩ a' W hl ⟨r, hr⟩ ⟨hall, hB⟩ ⟨hq, rfl⟩ hlt
    dsimp only at hq ⊢
    have hle : (sbL m k).length ≤ m.length := sbTo_len m k m.length
    have hqi := hq.ints (by omega)
    obtain ⟨x1, x3, rfl, -⟩ := hqi.form
    have kR := (bR.below hB).cell 0
    have kM := (bM.below hB).cell 0
    have bCW := bC.below hB
    have hBw : Below w.heap.size w W := bon hbw hB
    have HS : Hid (Calls Tryz.prog 171 #[.slice a1 R.length c1, .slice x1 (sbL m k).length x3] W fun e w' => e = .returned (.bool (satR R (sbL m k))) ∧ Below W.heap.size W w') := Lib.hid (satf_any _ _ R (sbL m k) n W (HR.out.below hBw) hqi (by omega) HOK.out)
    have HBX := Lib.hid hB
    have HBW := Lib.hid hBw
    have HALL := Lib.hid hall
    have kM2 : ∀ W', Below W.heap.size W W' → W'.cell? ⟨w.heap.size + 1, 0, none⟩ = some (.slice a4 m.length c4) := fun W' h => ((bM.below hB).below h).cell 0
    have KM2 := Lib.hid kM2
    clear hB hBw hall hqi hq kM2
    cases he : satR R (sbL m k) with
    | false =>
      have HEX : Hid (_ = false) := Lib.hid he
      rw [he] at HS
      clear he
      gi_wp2_with (refine ⟨trivial, ?_⟩; gi_at_call 171; refine (CallsIn.inRound l (callsIn_wide.2 HS.out)).mono ?_; rintro e w2 ⟨rfl, hb2⟩)
      refine ⟨keeps_below hb2, .of_below hb2 HBX.out.size, fun u hu => ?_, bon HBX.out hb2⟩
      rcases List.mem_append.1 hu with h | h
      · exact HALL.out u h
      · obtain rfl := List.mem_singleton.1 h
        exact HEX.out
    | true =>
      have HEX : Hid (_ = true) := Lib.hid he
      rw [he] at HS
      clear he
      by_cases hlen : (sbL m k).length = m.length
      · rw [hlen] at HS ⊢
        have HLEN := Lib.hid hlen
        clear hlen
        gi_wp2_with (refine ⟨trivial, ?_⟩; gi_at_call 171; refine (CallsIn.inRound l (callsIn_wide.2 HS.out)).mono ?_; rintro e w2 ⟨rfl, hb2⟩; have kc := (bCW.below hb2).cell 0; have kf := (bCW.below hb2).free 0; have km := KM2.out _ hb2)
        exact ⟨(keeps_below hb2).trans ((KeepsOthers.setCell _ _ _).from _), ⟨_, k, _, rfl, rfl, HALL.out, HEX.out, by rw [HLEN.out, decide_eq_true rfl]; exact (bCW.below hb2).set 0 _⟩, (bon HBW.out hb2).setCell (p := ⟨w.heap.size + 1 + 1, 0, none⟩) (by simp; omega) _⟩
      · have HLEN := Lib.hid hlen
        have hli : (((sbL m k).length : Int) == (m.length : Int)) = false := beq_eq_false_iff_ne.2 (fun h => hlen (by omega))
        clear hlen
        gi_wp2_with (refine ⟨trivial, ?_⟩; gi_at_call 171; refine (CallsIn.inRound l (callsIn_wide.2 HS.out)).mono ?_; rintro e w2 ⟨rfl, hb2⟩; have kc := (bCW.below hb2).cell 0; have kf := (bCW.below hb2).free 0; have km := KM2.out _ hb2)
        exact ⟨(keeps_below hb2).trans ((KeepsOthers.setCell _ _ _).from _), ⟨_, k, _, rfl, rfl, HALL.out, HEX.out, by rw [decide_eq_false HLEN.out]; exact (bCW.below hb2).set 0 _⟩, (bon HBW.out hb2).setCell (p := ⟨w.heap.size + 1 + 1, 0, none⟩) (by simp; omega) _⟩
  case done =>
    rintro D xs W hD hS ⟨hall, hB⟩ hK
    have bCW := bC.below hB
    have kc := bCW.cell 0
    have kf := bCW.free 0
    have hBw : Below w.heap.size w W := bon hbw hB
    have HMI := Lib.hid (minIs_none hS hall)
    clear hS hall
    gi_wp2
    have hK' := (KeepsOthers.setCell W ⟨w.heap.size + 1 + 1, 0, none⟩ (.bool false)).same D _ hK rfl
    refine ⟨by simp, .inl ⟨_, _, rfl, run_takeDeferred hK', ?_⟩⟩
    have hc5 := cell_kept (World.cell?_setCell_same' W ⟨w.heap.size + 1 + 1, 0, none⟩ (.bool false) (by rw [kc]; rfl)) (grownBy_putObj' _ D (.deferred none)) (fun r e => by cases e; exact ⟨_, hK', rfl⟩)
    refine ⟨.bool false, ?_, false, rfl, HMI.out, (hBw.setCell (p := ⟨w.heap.size + 1 + 1, 0, none⟩) (by simp; omega) _).trans (belowK_b (w := w) (Nat.le_refl _) _ D _ _ (by omega) hK' rfl rfl)⟩
    simp [results, Tryz.f136, go_sem, hc5]
  case stop =>
    rintro D c pre W hD ⟨k, hk, hp⟩ ⟨hm, hB⟩ hK
    obtain ⟨rfl, b, bCW, hmi⟩ := hm.is hk hp
    gi_wp2
    refine ⟨by simp, .inl ⟨_, _, rfl, run_takeDeferred hK, ?_⟩⟩
    have hc5 := cell_kept (bCW.cell 0) (grownBy_putObj' _ D (.deferred none)) (fun r e => by cases e; exact ⟨_, hK, rfl⟩)
    refine ⟨.bool b, ?_, b, rfl, hmi, hB.trans (belowK_b (w := w) (Nat.le_refl _) W D _ _ (by omega) hK rfl rfl)⟩
    simp [results, Tryz.f136, go_sem, hc5]
end Go.Proofs.YtfajkmmmmmfhiaaGreatDoor
namespace Go.Proofs.YtfajkmmmmmfhiaaGreatDoor
open Go.RowKit
def StabIs (p : GP) (m : List Int) (b : Bool) : Prop := ∀ F, IsFnd p (extA p m) F → b = (suppB p m && decide (findTo F (extA p m) p.n.toNat = []))
theorem StabIs.no {p : GP} {m : List Int} (h : modelsB p m = false) : StabIs p m false := fun F _ => by
  unfold suppB; rw [h]; rfl
theorem stabD_no {p : GP} {m : List Int} (h : modelsB p m = false) : false = true ↔ StabD p m :=
  ⟨fun e => (by cases e), fun e => by rw [e.model] at h; cases h⟩
theorem stabD_yes {p : GP} {m M : List Int} (hv : validE p = 0) (hf : flatP p = true) (hm : setQ p.n m = true) (h : modelsB p m = true) (hM : IsLeast (redL p m) M) (hs : M.Pairwise (· < ·)) : decide (M = m) = true ↔ StabD p m := by
  have := stabD_flat hv hf hm hM hs
  rwa [h, Bool.true_and] at this
set_option maxHeartbeats 4000000 in
set_option maxRecDepth 100000 in
theorem isF_any (v vm : Value) (p : GP) (m : List Int) (w : World) (h : ProgIs w v p) (hm : Ints w vm m) (hv : validE p = 0) (hf : flatP p = true) (hs : setQ p.n m = true) (hl : (redL p m).length ≤ 40000) (hml : m.length ≤ 1000000000) :
    Calls Tryz.prog 90 #[v, vm, .bool false] w fun e w' => ∃ b, e = .returned (.bool b) ∧ (b = true ↔ StabD p m) ∧ Below w.heap.size w w' := by
  have h0 := h
  obtain ⟨vn, vs, vr, vmn, rfl, -⟩ := h
  have hal := bal (Below.refl w.heap.size w) (.cells #[.int .i64 p.n, vn, vs, vr, vmn] 27)
  have HBX := Lib.hid (Blk.new w [.int .i64 p.n, vn, vs, vr, vmn] 27)
  have kx := HBX.out.cell
  have hlt := HBX.out.lt
  have HP0 := Lib.hid h0
  have HM0 := Lib.hid hm
  have HP := Lib.hid (h0.below hal)
  have HM := Lib.hid (hm.below hal)
  have HAL := Lib.hid hal
  have HV := Lib.hid hv
  have HF := Lib.hid hf
  have HS := Lib.hid hs
  have HDF := Lib.hid (red_definite hv hf hl)
  clear hal h0 hm
  cases hmo : modelsB p m with
  | false =>
    have HC : Hid ((decide (checkE p m = 0) && modelsB p m) = false ∧ checkE p m = 0) := Lib.hid ⟨by rw [hmo, Bool.and_false], by unfold checkE; rw [if_neg (by simp [hv]), hs]; rfl⟩
    have HMO := Lib.hid hmo
    clear hmo hv hs hf
    go_enter Tryz.func90, Tryz.ntmps90
    go_wp2_with (go_at_call 31; (with_reducible refine (models_any _ _ p m _ HP.out HM.out).mono ?_); rintro e w1 ⟨e1, hb1⟩; rw [HC.out.1, HC.out.2] at e1; subst e1)
    go_ret
    exact ⟨false, rfl, stabD_no HMO.out, bon HAL.out hb1⟩
  | true =>
    have HC : Hid ((decide (checkE p m = 0) && modelsB p m) = true ∧ checkE p m = 0) := Lib.hid (by
      have : checkE p m = 0 := by unfold checkE; rw [if_neg (by simp [hv]), hs]; rfl
      exact ⟨by rw [hmo, decide_eq_true this]; rfl, this⟩)
    have HMO := Lib.hid hmo
    clear hmo hv hs hf
    go_enter Tryz.func90, Tryz.ntmps90
    go_wp2_with (first
      | (go_at_call 109; (with_reducible refine (sEqual_any _ _ M m _ (HQM.out.ints hML) (HM0.out.below HB3.out)).mono ?_); rintro e w4 ⟨rfl, hb4⟩)
      | (go_at_call 34; (with_reducible refine (least_intQ _ (redL p m) p.n _ HRU.out HDF.out).mono ?_); rintro e w3 ⟨M, ao, co, rfl, hqM, hlM, hsM, hrM, hlenM, hb3⟩; have HQM := Lib.hid hqM; have HLM := Lib.hid hlM; have HSM := Lib.hid hsM; have HB3 := Lib.hid (bon HB2.out hb3); have hML : M.length * 8 ≤ 140737488351232 := (by have := (validP HV.out).n; omega); clear hqM hlM hsM hrM hb3)
      | (go_at_call 33; (with_reducible refine (reduct_any _ _ p m _ (HP0.out.below HB1.out) (HM0.out.below HB1.out) HV.out HS.out hml).mono ?_); rintro e w2 ⟨vrr, rfl, hru, hb2⟩; have HRU := Lib.hid hru; have HB2 := Lib.hid (bon HB1.out hb2); have kx2 := fun o => (bcell hb2 _ o hlt1).trans (kx1 o); obtain ⟨ar, cr, rfl, -⟩ := hru.form; clear hru hb2)
      | (go_at_call 31; (with_reducible refine (models_any _ _ p m _ HP.out HM.out).mono ?_); rintro e w1 ⟨e1, hb1⟩; rw [HC.out.1, HC.out.2] at e1; subst e1; have kx1 := fun o => (bcell hb1 _ o hlt).trans (kx o); have hlt1 := Nat.lt_of_lt_of_le hlt hb1.size; have HB1 := Lib.hid (bon HAL.out hb1); clear hb1))
    go_ret
    exact ⟨_, rfl, stabD_yes HV.out HF.out HS.out HMO.out HLM.out HSM.out, bon HB3.out hb4⟩
set_option maxHeartbeats 4000000 in
set_option maxRecDepth 100000 in
theorem isM_any (v vm : Value) (p : GP) (m : List Int) (w : World) (h : ProgIs w v p) (hm : Ints w vm m) (hv : validE p = 0) (hs : setQ p.n m = true) (hml : m.length ≤ 12) :
    Calls Tryz.prog 90 #[v, vm, .bool true] w fun e w' => ∃ b, e = .returned (.bool b) ∧ (b = true ↔ StabD p m) ∧ Below w.heap.size w w' := by
  have h0 := h
  obtain ⟨vn, vs, vr, vmn, rfl, -⟩ := h
  have hal := bal (Below.refl w.heap.size w) (.cells #[.int .i64 p.n, vn, vs, vr, vmn] 27)
  have HBX := Lib.hid (Blk.new w [.int .i64 p.n, vn, vs, vr, vmn] 27)
  have kx := HBX.out.cell
  have hlt := HBX.out.lt
  have HP0 := Lib.hid h0
  have HM0 := Lib.hid hm
  have HP := Lib.hid (h0.below hal)
  have HM := Lib.hid (hm.below hal)
  have HAL := Lib.hid hal
  have HV := Lib.hid hv
  have HS := Lib.hid hs
  have HBV := Lib.hid (red_bodyV (m := m) hv)
  clear hal h0 hm
  cases hmo : modelsB p m with
  | false =>
    have HC : Hid ((decide (checkE p m = 0) && modelsB p m) = false ∧ checkE p m = 0) := Lib.hid ⟨by rw [hmo, Bool.and_false], by unfold checkE; rw [if_neg (by simp [hv]), hs]; rfl⟩
    have HMO := Lib.hid hmo
    clear hmo hv hs
    go_enter Tryz.func90, Tryz.ntmps90
    go_wp2_with (go_at_call 31; (with_reducible refine (models_any _ _ p m _ HP.out HM.out).mono ?_); rintro e w1 ⟨e1, hb1⟩; rw [HC.out.1, HC.out.2] at e1; subst e1)
    go_ret
    exact ⟨false, rfl, stabD_no HMO.out, bon HAL.out hb1⟩
  | true =>
    have HC : Hid ((decide (checkE p m = 0) && modelsB p m) = true ∧ checkE p m = 0) := Lib.hid (by
      have : checkE p m = 0 := by unfold checkE; rw [if_neg (by simp [hv]), hs]; rfl
      exact ⟨by rw [hmo, decide_eq_true this]; rfl, this⟩)
    have HMO := Lib.hid hmo
    clear hmo hv hs
    go_enter Tryz.func90, Tryz.ntmps90
    go_wp2_with (first
      | (go_at_call 136; (with_reducible refine (minimal_any _ _ (redL p m) m p.n _ HRU.out (HM0.out.below HB2.out) hml HBV.out).mono ?_); rintro e w3 ⟨b, rfl, hmi, hb3⟩)
      | (go_at_call 33; (with_reducible refine (reduct_any _ _ p m _ (HP0.out.below HB1.out) (HM0.out.below HB1.out) HV.out HS.out (by omega)).mono ?_); rintro e w2 ⟨vrr, rfl, hru, hb2⟩; have HRU := Lib.hid hru; have HB2 := Lib.hid (bon HB1.out hb2); have kx2 := fun o => (bcell hb2 _ o hlt1).trans (kx1 o); obtain ⟨ar, cr, rfl, -⟩ := hru.form; clear hru hb2)
      | (go_at_call 31; (with_reducible refine (models_any _ _ p m _ HP.out HM.out).mono ?_); rintro e w1 ⟨e1, hb1⟩; rw [HC.out.1, HC.out.2] at e1; subst e1; have kx1 := fun o => (bcell hb1 _ o hlt).trans (kx o); have hlt1 := Nat.lt_of_lt_of_le hlt hb1.size; have HB1 := Lib.hid (bon HAL.out hb1); clear hb1))
    go_ret
    exact ⟨_, rfl, stabD_min HV.out (setQ_sorted HS.out) HMO.out hmi, bon HB2.out hb3⟩
theorem isD_any (v vm : Value) (p : GP) (m : List Int) (d : Bool) (w : World) (h : ProgIs w v p) (hm : Ints w vm m) (hv : validE p = 0) (hd : d = false → flatP p = true) (hs : setQ p.n m = true) (hl : (redL p m).length ≤ 40000) (hml : m.length ≤ 12) :
    Calls Tryz.prog 90 #[v, vm, .bool d] w fun e w' => ∃ b, e = .returned (.bool b) ∧ (b = true ↔ StabD p m) ∧ Below w.heap.size w w' := by
  cases d with
  | false => exact isF_any v vm p m w h hm hv (hd rfl) hs hl (by omega)
  | true => exact isM_any v vm p m w h hm hv hs hml
theorem disj_flat2 {p : GP} (h : disjB p = false) : flatP p = true := allR_true fun i hi => by
  have h1 : disjAt (ixR p.rules i) = false := by
    cases e : disjAt (ixR p.rules i) with
    | false => rfl
    | true => exact absurd (anyR_true (f := fun i => disjAt (ixR p.rules i)) i hi e) (by unfold disjB at h; rw [h]; exact Bool.false_ne_true)
  unfold disjAt at h1
  cases hc : (ixR p.rules i).choice with
  | true => rfl
  | false =>
    rw [hc] at h1
    simpa using h1
theorem isE_any (v vm : Value) (p : GP) (m : List Int) (d : Bool) (w : World) (h : ProgIs w v p) (hm : Ints w vm m) (hv : validE p = 0) (hd : disjB p = d) (hs : setQ p.n m = true) (hl : (redL p m).length ≤ 40000) (hml : m.length ≤ 12) :
    Calls Tryz.prog 90 #[v, vm, .bool d] w fun e w' => ∃ b, e = .returned (.bool b) ∧ (b = true ↔ StabD p m) ∧ Below w.heap.size w w' :=
  isD_any v vm p m d w h hm hv (fun e => disj_flat2 (hd.trans e)) hs hl hml
set_option maxHeartbeats 4000000 in
set_option maxRecDepth 100000 in
theorem Is_gen (v vm : Value) (p : GP) (m : List Int) (w : World) (h : ProgIs w v p) (hm : Ints w vm m) (hv : validE p = 0) (hs : setQ p.n m = true) (hl : (redL p m).length ≤ 40000) (hml : m.length ≤ 12) :
    Calls Tryz.prog 41 #[v, vm] w fun e w' => ∃ b, e = .returned (.tuple #[.bool b, .int .i64 0]) ∧ (b = true ↔ StabD p m) ∧ Below w.heap.size w w' := by
  have h0 := h
  obtain ⟨vn, vs, vr, vmn, rfl, -⟩ := h
  obtain ⟨am, cm, rfl, -⟩ := id hm.form
  have hal := bal (Below.refl w.heap.size w) (.cells #[.int .i64 p.n, vn, vs, vr, vmn] 27)
  have HBX := Lib.hid (Blk.new w [.int .i64 p.n, vn, vs, vr, vmn] 27)
  have kx := HBX.out.cell
  have hlt := HBX.out.lt
  have HP0 := Lib.hid h0
  have HM0 := Lib.hid hm
  have HP := Lib.hid (h0.below hal)
  have HAL := Lib.hid hal
  have HV := Lib.hid hv
  have HS := Lib.hid hs
  clear hal h0 hm hv hs
  cases hd : disjB p with
  | false =>
    have HD := Lib.hid hd
    clear hd
    go_enter Tryz.func41, Tryz.ntmps41
    go_wp2_with (first
      | (go_at_call 90; (with_reducible refine (isE_any _ _ p m false _ (HP0.out.below HB2.out) (HM0.out.below HB2.out) HV.out HD.out HS.out hl hml).mono ?_); rintro e w4 ⟨b, rfl, hst, hb4⟩)
      | (go_at_call 30; (with_reducible refine (redSet_any _ p.n m _ (HM0.out.below HB2.out)).mono ?_); rintro e w3 ⟨e1, rfl⟩; rw [HS.out] at e1; subst e1)
      | (go_at_call 89; (with_reducible refine (disj_any _ p _ (HP0.out.below HB1.out)).mono ?_); rintro e w2 ⟨e1, hb2⟩; rw [HD.out] at e1; subst e1; have kx2 := fun o => (bcell hb2 _ o hlt1).trans (kx1 o); have HB2 := Lib.hid (bon HB1.out hb2); clear hb2)
      | (go_at_call 27; (with_reducible refine (valid_any _ p _ HP.out).mono ?_); rintro e w1 ⟨e1, hb1⟩; rw [HV.out] at e1; subst e1; have kx1 := fun o => (bcell hb1 _ o hlt).trans (kx o); have hlt1 := Nat.lt_of_lt_of_le hlt hb1.size; have HB1 := Lib.hid (bon HAL.out hb1); clear hb1))
    go_ret2
    exact ⟨b, rfl, hst, bon HB2.out hb4⟩
  | true =>
    have HD := Lib.hid hd
    have hml2 : ¬ (12 : Int) < (m.length : Int) := by omega
    clear hd
    go_enter Tryz.func41, Tryz.ntmps41
    go_wp2_with (first
      | (go_at_call 90; (with_reducible refine (isE_any _ _ p m true _ (HP0.out.below HB2.out) (HM0.out.below HB2.out) HV.out HD.out HS.out hl hml).mono ?_); rintro e w4 ⟨b, rfl, hst, hb4⟩)
      | (go_at_call 30; (with_reducible refine (redSet_any _ p.n m _ (HM0.out.below HB2.out)).mono ?_); rintro e w3 ⟨e1, rfl⟩; rw [HS.out] at e1; subst e1)
      | (go_at_call 89; (with_reducible refine (disj_any _ p _ (HP0.out.below HB1.out)).mono ?_); rintro e w2 ⟨e1, hb2⟩; rw [HD.out] at e1; subst e1; have kx2 := fun o => (bcell hb2 _ o hlt1).trans (kx1 o); have HB2 := Lib.hid (bon HB1.out hb2); clear hb2)
      | (go_at_call 27; (with_reducible refine (valid_any _ p _ HP.out).mono ?_); rintro e w1 ⟨e1, hb1⟩; rw [HV.out] at e1; subst e1; have kx1 := fun o => (bcell hb1 _ o hlt).trans (kx o); have hlt1 := Nat.lt_of_lt_of_le hlt hb1.size; have HB1 := Lib.hid (bon HAL.out hb1); clear hb1))
    go_ret2
    exact ⟨b, rfl, hst, bon HB2.out hb4⟩
theorem ES41.bare {w W : World} {p : GP} {vn vs vr vm xw xr : Value} (h : ES41 w p vn vs vr vm xw xr W) (h0 : ProgIs w (.agg #[.int .i64 p.n, vn, vs, vr, vm]) p) (u : Value) : ES41 w p vn vs vr vm xw u (W.setCell ⟨w.heap.size + 1, 1, none⟩ u) := by
  have hb : Below w.heap.size w (W.setCell ⟨w.heap.size + 1, 1, none⟩ u) := h.st.below.setCell (by show w.heap.size ≤ w.heap.size + 1; omega) u
  exact ⟨⟨h.st.box.setOther 1 u (by omega), h0.below hb, hb⟩, h.bx.set 1 u⟩
set_option maxHeartbeats 8000000 in
set_option maxRecDepth 100000 in
theorem esound_any (v vx : Value) (p : GP) (bits : Int) (x : XP) (w : World) (h : ProgIs w v p) (hx : ExplIs w vx x) :
    Calls Tryz.prog 9 #[v, .int .u16 bits, vx] w fun e w' => e = .returned (.bool true) ∧ Below w.heap.size w w' := by
  have h0 := h
  obtain ⟨vn, vs, vr, vm, rfl, hps⟩ := h
  obtain ⟨xw, xr, rfl, hwh, hrs⟩ := hx
  obtain ⟨aw, cw, rfl, -⟩ := id hwh.form
  obtain ⟨ar, cr, rfl, -⟩ := id hrs.form
  have hIn := hps.n
  unfold InI at hIn
  have HP0 := Lib.hid h0
  have HS0 := Lib.hid (ES41.start (xw := .slice aw x.whys.length cw) (xr := .slice ar x.rest.length cr) h0)
  have kx0 := HS0.out.st.box.cell
  have ky0 := HS0.out.bx.cell
  have HX : Hid (ExplIs w (.agg #[.slice aw x.whys.length cw, .slice none 0 0]) ⟨x.whys, []⟩) := Lib.hid ⟨_, _, rfl, hwh, nil_ints w⟩
  clear h0 hps hwh hrs
  go_enter Tryz.func9, Tryz.ntmps9
  go_upto_region 1 with fail
  generalize (w.alloc (.cells #[.int .i64 p.n, vn, vs, vr, vm] 27)).alloc (.cells #[.slice aw x.whys.length cw, .slice ar x.rest.length cr] 30) = W0 at *
  cases hsm : small20B p with
  | false =>
    have HSM := Lib.hid hsm
    clear hsm
    go_wp2_with (first | (go_at_call 12; (with_reducible refine (awake41_any _).mono ?_); rintro e w9 ⟨rfl, hb9⟩; have HS9 := Lib.hid (HS1.out.on hb9); have kx9 := HS9.out.st.box.cell; have ky9 := HS9.out.bx.cell; have kf9 := HS9.out.bx.free; clear hb9) | (go_at_call 40; (with_reducible refine (small20_any _ p _ HS0.out.st.prog).mono ?_); rintro e w1 ⟨h1, hb1⟩; rw [HSM.out] at h1; subst h1; have HS1 := Lib.hid (HS0.out.on hb1); have kx1 := HS1.out.st.box.cell; have ky1 := HS1.out.bx.cell; have kf1 := HS1.out.bx.free; clear hb1))
    go_ret
    exact ⟨rfl, HS9.out.st.below⟩
  | true =>
    obtain ⟨hfw, hn6, hv⟩ := small20_parts hsm
    have hn0 := (validP hv).n
    have HSM := Lib.hid hsm
    have HFW := Lib.hid hfw
    have HV := Lib.hid hv
    clear hsm hfw hv
    by_cases hlen : 8 < x.whys.length
    · go_wp2_with (first | (go_at_call 12; (with_reducible refine (awake41_any _).mono ?_); rintro e w9 ⟨rfl, hb9⟩; have HS9 := Lib.hid (HS1.out.on hb9); have kx9 := HS9.out.st.box.cell; have ky9 := HS9.out.bx.cell; have kf9 := HS9.out.bx.free; clear hb9) | (go_at_call 40; (with_reducible refine (small20_any _ p _ HS0.out.st.prog).mono ?_); rintro e w1 ⟨h1, hb1⟩; rw [HSM.out] at h1; subst h1; have HS1 := Lib.hid (HS0.out.on hb1); have kx1 := HS1.out.st.box.cell; have ky1 := HS1.out.bx.cell; have kf1 := HS1.out.bx.free; clear hb1))
      go_ret
      exact ⟨rfl, HS9.out.st.below⟩
    · obtain ⟨m, hm⟩ : ∃ m, subL bits p.n.toNat = m := ⟨_, rfl⟩
      have hset := subL_set19 bits hn0.1
      have hml : m.length ≤ 12 := by have := subL_len bits p.n.toNat; rw [hm] at this; omega
      rw [hm] at hset
      have HM := Lib.hid hm
      have HSET := Lib.hid hset
      have HL5 : Hid ((⟨x.whys, []⟩ : XP).whys.length ≤ 500) := Lib.hid (by show x.whys.length ≤ 500; omega)
      have HRL : Hid ((redL p m).length ≤ 40000) := Lib.hid (redL_few (few17_head HFW.out).1 (few17_head HFW.out).2)
      clear hm hset
      go_upto_region 5 with (first | (go_at_call 28; (with_reducible refine (subset19_int p.n bits ⟨hn0.1, by omega⟩ w1).mono ?_); rintro e w3 ⟨vS, rfl, hq, hb3⟩; rw [HM.out] at hq; obtain ⟨aS, cS, rfl⟩ := hq.slen; have HS3 := Lib.hid (HS1.out.on hb3); have kx3 := HS3.out.st.box.cell; have ky3 := HS3.out.bx.cell; have kf3 := HS3.out.bx.free; have HQ3 := Lib.hid hq; clear hb3 hq) | (go_at_call 40; (with_reducible refine (small20_any _ p _ HS0.out.st.prog).mono ?_); rintro e w1 ⟨h1, hb1⟩; rw [HSM.out] at h1; subst h1; have HS1 := Lib.hid (HS0.out.on hb1); have kx1 := HS1.out.st.box.cell; have ky1 := HS1.out.bx.cell; have kf1 := HS1.out.bx.free; clear hb1))
      have HS4 := Lib.hid (HS3.out.bare HP0.out (.slice none 0 0))
      have HI4 : Hid (Ints (w3.setCell ⟨w.heap.size + 1, 1, none⟩ (.slice none 0 0)) (.slice aS m.length cS) m) := Lib.hid ((HQ3.out.setFar 1 (.slice none 0 0) (by have := HS1.out.bx.lt; omega)).ints (by omega))
      have kx4 := HS4.out.st.box.cell
      have ky4 := HS4.out.bx.cell
      clear kx0 ky0 kx1 ky1 kx3 ky3 kf1 kf3
      generalize w3.setCell ⟨w.heap.size + 1, 1, none⟩ (.slice none 0 0) = W4 at *
      cases hmod : modelsB p m with
      | false =>
        have HE : Hid (xE p m = 410) := Lib.hid (xE_no HV.out HSET.out hmod)
        have HNS : Hid (¬ StabD p m) := Lib.hid (fun hs => by rw [hs.model] at hmod; cases hmod)
        clear hmod
        go_wp2_with (first
          | (go_at_call 12; (with_reducible refine (awake41_any _).mono ?_); rintro e w9 ⟨rfl, hb9⟩; have HS9 := Lib.hid ((HS7.out.on (bal (Below.refl _ _) _)).on hb9); clear hb9)
          | (go_at_call 14; (with_reducible refine (expl_no HE.out HS6.out.st.prog HI6.out).mono ?_); rintro e w7 ⟨a1, c1, a2, c2, rfl, hb7⟩; have HS7 := Lib.hid (HS6.out.on hb7); have kx7 := HS7.out.st.box.cell; have ky7 := HS7.out.bx.cell; have kf7 := HS7.out.bx.free; clear hb7)
          | (go_at_call 15; (with_reducible refine (check_no HE.out HS5.out.st.prog HI5.out (HX.out.below HS5.out.st.below) HL5.out).mono ?_); rintro e w6 ⟨rfl, hb6⟩; have HS6 := Lib.hid (HS5.out.on hb6); have kx6 := HS6.out.st.box.cell; have ky6 := HS6.out.bx.cell; have kf6 := HS6.out.bx.free; have HI6 := Lib.hid (HI5.out.below hb6); clear hb6)
          | (go_at_call 41; (with_reducible refine (Is_gen _ _ p m _ HS4.out.st.prog HI4.out HV.out HSET.out HRL.out hml).mono ?_); rintro e w5 ⟨b, rfl, hst, hb5⟩; obtain rfl : b = false := (by cases b with | false => rfl | true => exact absurd (hst.1 rfl) HNS.out); have HS5 := Lib.hid (HS4.out.on hb5); have kx5 := HS5.out.st.box.cell; have ky5 := HS5.out.bx.cell; have kf5 := HS5.out.bx.free; have HI5 := Lib.hid (HI4.out.below hb5); clear hb5 hst))
        go_ret
        exact ⟨rfl, HS9.out.st.below⟩
      | true =>
        have HE : Hid (xE p m = 0) := Lib.hid (xE_of HV.out HSET.out hmod)
        have HMO := Lib.hid hmod
        obtain ⟨L, R, hLR⟩ : ∃ L R, explX p m = ⟨L, R⟩ := ⟨_, _, rfl⟩
        obtain ⟨c, hc⟩ : ∃ c, chkX p m ⟨x.whys, []⟩ = c := ⟨_, rfl⟩
        have HSC : Hid (c = true → StabD p m) := Lib.hid (fun e => sound_their (x := ⟨x.whys, []⟩) HV.out HSET.out HMO.out rfl (by rw [hc, e]))
        have HSR : Hid (R.length = 0 → StabD p m) := Lib.hid (fun e => sound_own HV.out HSET.out HMO.out (by rw [hLR]; exact List.length_eq_zero_iff.1 e))
        have HLR := Lib.hid hLR
        have HC := Lib.hid hc
        clear hmod hLR hc
        cases c with
        | true =>
          go_wp2_with (first
            | (go_at_call 12; (with_reducible refine (awake41_any _).mono ?_); rintro e w9 ⟨rfl, hb9⟩; have HS9 := Lib.hid ((HS7.out.on (bal (Below.refl _ _) _)).on hb9); clear hb9)
            | (go_at_call 14; (with_reducible refine (expl_ok HE.out HLR.out HS6.out.st.prog HI6.out).mono ?_); rintro e w7 ⟨a1, c1, a2, c2, rfl, -, -, hb7⟩; have HS7 := Lib.hid (HS6.out.on hb7); have kx7 := HS7.out.st.box.cell; have ky7 := HS7.out.bx.cell; have kf7 := HS7.out.bx.free; clear hb7)
            | (go_at_call 15; (with_reducible refine (check_ok HE.out HC.out HS5.out.st.prog HI5.out (HX.out.below HS5.out.st.below) HL5.out).mono ?_); rintro e w6 ⟨rfl, hb6⟩; have HS6 := Lib.hid (HS5.out.on hb6); have kx6 := HS6.out.st.box.cell; have ky6 := HS6.out.bx.cell; have kf6 := HS6.out.bx.free; have HI6 := Lib.hid (HI5.out.below hb6); clear hb6)
            | (go_at_call 41; (with_reducible refine (Is_gen _ _ p m _ HS4.out.st.prog HI4.out HV.out HSET.out HRL.out hml).mono ?_); rintro e w5 ⟨b, rfl, hst, hb5⟩; obtain rfl : b = true := hst.2 (HSC.out rfl); have HS5 := Lib.hid (HS4.out.on hb5); have kx5 := HS5.out.st.box.cell; have ky5 := HS5.out.bx.cell; have kf5 := HS5.out.bx.free; have HI5 := Lib.hid (HI4.out.below hb5); clear hb5 hst))
          go_ret
          exact ⟨rfl, HS9.out.st.below⟩
        | false =>
          by_cases hr : R.length = 0
          · have HR := Lib.hid hr
            have hr0 : ((R.length : Int) == 0) = true := by simp [hr]
            clear hr
            go_wp2_with (first
              | (go_at_call 12; (with_reducible refine (awake41_any _).mono ?_); rintro e w9 ⟨rfl, hb9⟩; have HS9 := Lib.hid ((HS7.out.on (bal (Below.refl _ _) _)).on hb9); clear hb9)
              | (go_at_call 14; (with_reducible refine (expl_ok HE.out HLR.out HS6.out.st.prog HI6.out).mono ?_); rintro e w7 ⟨a1, c1, a2, c2, rfl, -, -, hb7⟩; have HS7 := Lib.hid (HS6.out.on hb7); have kx7 := HS7.out.st.box.cell; have ky7 := HS7.out.bx.cell; have kf7 := HS7.out.bx.free; clear hb7)
              | (go_at_call 15; (with_reducible refine (check_ok HE.out HC.out HS5.out.st.prog HI5.out (HX.out.below HS5.out.st.below) HL5.out).mono ?_); rintro e w6 ⟨rfl, hb6⟩; have HS6 := Lib.hid (HS5.out.on hb6); have kx6 := HS6.out.st.box.cell; have ky6 := HS6.out.bx.cell; have kf6 := HS6.out.bx.free; have HI6 := Lib.hid (HI5.out.below hb6); clear hb6)
              | (go_at_call 41; (with_reducible refine (Is_gen _ _ p m _ HS4.out.st.prog HI4.out HV.out HSET.out HRL.out hml).mono ?_); rintro e w5 ⟨b, rfl, hst, hb5⟩; obtain rfl : b = true := hst.2 (HSR.out HR.out); have HS5 := Lib.hid (HS4.out.on hb5); have kx5 := HS5.out.st.box.cell; have ky5 := HS5.out.bx.cell; have kf5 := HS5.out.bx.free; have HI5 := Lib.hid (HI4.out.below hb5); clear hb5 hst))
            go_ret
            exact ⟨rfl, HS9.out.st.below⟩
          · have hr0 : ((R.length : Int) == 0) = false := by simp only [beq_eq_false_iff_ne, ne_eq]; omega
            go_wp2_with (first
              | (go_at_call 12; (with_reducible refine (awake41_any _).mono ?_); rintro e w9 ⟨rfl, hb9⟩; have HS9 := Lib.hid ((HS7.out.on (bal (Below.refl _ _) _)).on hb9); clear hb9)
              | (go_at_call 14; (with_reducible refine (expl_ok HE.out HLR.out HS6.out.st.prog HI6.out).mono ?_); rintro e w7 ⟨a1, c1, a2, c2, rfl, -, -, hb7⟩; have HS7 := Lib.hid (HS6.out.on hb7); have kx7 := HS7.out.st.box.cell; have ky7 := HS7.out.bx.cell; have kf7 := HS7.out.bx.free; clear hb7)
              | (go_at_call 15; (with_reducible refine (check_ok HE.out HC.out HS5.out.st.prog HI5.out (HX.out.below HS5.out.st.below) HL5.out).mono ?_); rintro e w6 ⟨rfl, hb6⟩; have HS6 := Lib.hid (HS5.out.on hb6); have kx6 := HS6.out.st.box.cell; have ky6 := HS6.out.bx.cell; have kf6 := HS6.out.bx.free; have HI6 := Lib.hid (HI5.out.below hb6); clear hb6)
              | (go_at_call 41; (with_reducible refine (Is_gen _ _ p m _ HS4.out.st.prog HI4.out HV.out HSET.out HRL.out hml).mono ?_); rintro e w5 ⟨b, rfl, -, hb5⟩; have HS5 := Lib.hid (HS4.out.on hb5); have kx5 := HS5.out.st.box.cell; have ky5 := HS5.out.bx.cell; have kf5 := HS5.out.bx.free; have HI5 := Lib.hid (HI4.out.below hb5); clear hb5))
            go_ret
            exact ⟨rfl, HS9.out.st.below⟩
theorem esound_law {W : World} {vp : Value} {p : GP} (hP : ProgIs W vp p) (y : Int) (_hy : (Lit.int .u16 y).wf = true) {vx : Value} {x : XP} (hX : ExplIs W vx x) :
    Calls Tryz.prog 9 #[vp, .int .u16 y, vx] W fun e W' => e = .returned (.bool true) ∧ Below W.heap.size W W' :=
  esound_any vp vx p y x W hP hX
end Go.Proofs.YtfajkmmmmmfhiaaGreatDoor
