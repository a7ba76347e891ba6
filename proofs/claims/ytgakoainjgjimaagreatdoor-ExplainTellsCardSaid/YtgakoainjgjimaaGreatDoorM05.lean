/- My texts Red1, Red2, Cm1, Lp2, Lp3, Lp4, Lp7, Lp9, Lp10, merged. -/
import Derived.Test.YtgakoainjgjimaaGreatDoorM04
import Derived.Test.YtgakoainjgjimaaGreatDoorM03
import Derived.Test.YtgakoainjgjimaaGreatDoorM00
import Derived.Test.YtgakoainjgjimaaGreatDoorProg
import Derived.WalkKit
import Derived.Lib.Hide
import Derived.Deep.QuietTactic
import Derived.BigQuiet
import Derived.WalkSpells
import Derived.Lib.SliceRun
import Derived.MapKept
import Derived.Maps.OwnSet
import Derived.Maps.OwnOps
import Derived.Test.YtgakoainjgjimaaGreatDoorM02
import Derived.Test.YtgakoainjgjimaaGreatDoorM01
import Derived.Deep.AppendLies
import Derived.Lib.Bytealg
import Derived.Deep.DeepCutAuto
import Derived.Laws.EntriesVeiled
import Derived.Deep.RegionWith
import Derived.RangeFuncNested
import Derived.RangeFuncBound
import Derived.RangeFuncCalls
import Derived.RangeFuncLeaves
import Derived.OwnWalkIn
import Derived.TacticsInMore
import Derived.LoopNIn
import Derived.LoopIn
import Derived.Stop.RegionWithIn
import Derived.Shelf.Abstract

namespace Go.Proofs.YtgakoainjgjimaaGreatDoor
open Go.RowKit
def setQ (n : Int) (S : List Int) : Bool := allR S.length (setTo n S)
set_option maxHeartbeats 2000000 in
theorem redSet_any (vs : Value) (n : Int) (S : List Int) (w : World) (hs : Ints w vs S) :
    Calls Tryz.prog 181 #[vs, .int .i64 n] w fun e w' => e = .returned (.bool (setQ n S)) ∧ w = w' := by
  obtain ⟨a1, c1, rfl, -, hl1, -, hcell⟩ := hs.form
  clear hs
  go_enter Tryz.func181, Tryz.ntmps181
  go_wp2
  go_loop [9] (fun i => ∃ k : Nat, k ≤ S.length ∧ i = .int .i64 k ∧ Hid (∀ j, j < k → setTo n S j = true)) (fun i => S.length - (intOf i).toNat)
  case atStart => exact ⟨0, by omega, rfl, Lib.hid (fun j hj => absurd hj (Nat.not_lt_zero _))⟩
  case round =>
    obtain ⟨k, hk, rfl, HA⟩ := hrel
    have HF : Hid (∀ k, k < S.length → setTo n S k = false → setQ n S = false) := Lib.hid (fun k hk h => by unfold setQ; rw [allR_false k hk h])
    by_cases hlt : k < S.length
    · obtain ⟨b, off, rfl, hbl, hc⟩ := hcell (by omega)
      have hk1 := hc k hlt
      by_cases h1 : ix S k < 1
      · have HN : Hid (setTo n S k = false) := Lib.hid (by unfold setTo; rw [decide_eq_false (by omega)]; rfl)
        clear hc hcell
        go_wp2
        go_ret
        exact ⟨ret_bool (HF.out k hlt HN.out).symm, rfl⟩
      · by_cases h2 : n < ix S k
        · have HN : Hid (setTo n S k = false) := Lib.hid (by unfold setTo; rw [decide_eq_false (by omega)]; rfl)
          clear hc hcell
          go_wp2
          go_ret
          exact ⟨ret_bool (HF.out k hlt HN.out).symm, rfl⟩
        · cases k with
          | zero =>
            have hk0 : w.cell? ⟨b, off, none⟩ = some (.int .i64 (ix S 0)) := hc 0 hlt
            clear hk1
            have HN := Lib.hid (lt_succ_all HA.out (show setTo n S 0 = true by unfold setTo; rw [decide_eq_true (by omega)]; rfl))
            clear hc hcell
            go_wp2
            first
              | (go_round
                 case rel => (exact ⟨0 + 1, by omega, by go_num, HN⟩)
                 case measure => (simp [intOf]; omega))
              | (refine ⟨?_, ?_⟩
                 · (exact ⟨0 + 1, by omega, by go_num, HN⟩)
                 · (simp [intOf]; omega))
          | succ k =>
            have hk0 := hc k (by omega)
            have e1 : (((k + 1 : Nat) : Int) - 1).toNat = k := by omega
            by_cases h3 : ix S k < ix S (k + 1)
            · have HN := Lib.hid (lt_succ_all HA.out (show setTo n S (k + 1) = true by unfold setTo; rw [decide_eq_true (by omega), Nat.add_sub_cancel, decide_eq_true h3]; simp))
              clear hc hcell
              go_wp2
              first
                | (go_round
                   case rel => (exact ⟨k + 1 + 1, by omega, by go_num, HN⟩)
                   case measure => (simp [intOf]; omega))
                | (refine ⟨?_, ?_⟩
                   · (exact ⟨k + 1 + 1, by omega, by go_num, HN⟩)
                   · (simp [intOf]; omega))
            · have HN : Hid (setTo n S (k + 1) = false) := Lib.hid (by unfold setTo; rw [Nat.add_sub_cancel, decide_eq_false h3]; simp)
              clear hc hcell
              go_wp2
              go_ret
              exact ⟨ret_bool (HF.out (k + 1) hlt HN.out).symm, rfl⟩
    · have HN : Hid (setQ n S = true) := Lib.hid (by unfold setQ; rw [allR_true (fun j hj => HA.out j (by omega))])
      go_wp2
      go_ret
      exact ⟨ret_bool HN.out.symm, rfl⟩
def wsum (m : List Int) (r : GR) : Nat → Int
  | 0 => 0
  | k + 1 => wsum m r k + if litT m (ix r.body k) then ix r.w k else 0
def bodyT (r : GR) (m : List Int) : Bool := if r.sum then decide (r.bound ≤ wsum m r r.body.length) else allR r.body.length (fun j => litT m (ix r.body j))
structure BodyOk (r : GR) : Prop where
  len : r.body.length ≤ 8000
  lit : ∀ j, j < r.body.length → -9223372036854775808 < ix r.body j
  wlen : r.sum = true → r.w.length = r.body.length
  w : r.sum = true → ∀ j, j < r.w.length → 0 ≤ ix r.w j ∧ ix r.w j ≤ 1048576
theorem wsum_bound {m : List Int} {r : GR} (h : BodyOk r) (hs : r.sum = true) : ∀ (k : Nat), k ≤ r.body.length → 0 ≤ wsum m r k ∧ wsum m r k ≤ 1048576 * k
  | 0, _ => by simp [wsum]
  | k + 1, hk => by
    have ih := wsum_bound (m := m) h hs k (by omega)
    have hw := h.w hs k (by have := h.wlen hs; omega)
    unfold wsum
    push_cast
    split <;> omega
theorem bodyc_any (x : Int) (m : List Int) (mb cb : Nat) (w : World) (h : InM w mb m) (hb : Blk w cb [.func (.func 121) #[] #[.pointer (some ⟨mb, 0, none⟩)]] 82) (hx : -9223372036854775808 < x ∧ x ≤ 9223372036854775807) :
    Calls Tryz.prog 119 #[.int .i64 x, .pointer (some ⟨cb, 0, none⟩)] w fun e w' => e = .returned (.bool (!litT m x)) ∧ w = w' := by
  have H := Lib.hid h
  have kb := hb.cell 0
  clear h hb
  go_enter Tryz.func119, Tryz.ntmps119
  go_wp2_with (go_at_call 120; (with_reducible refine (holdsL_any _ m _ _ H.out (by omega)).mono ?_); rintro e w1 ⟨rfl, rfl⟩)
  go_ret
  exact ⟨rfl, rfl⟩
set_option maxHeartbeats 1000000 in
theorem idx_bd (v : Value) (l : List Int) (w : World) (h : Ints w v l) (g : Nat → Bool) (cap : Value)
    (hg : ∀ w', Below w.heap.size w w' → ∀ j, j < l.length → Calls Tryz.prog 119 #[.int .i64 (ix l j), cap] w' fun e w'' => e = .returned (.bool (g j)) ∧ Below w'.heap.size w' w'') :
    Calls Tryz.prog 90 #[v, .func (.func 119) #[] #[cap]] w fun e w' => ∃ r, e = .returned (.int .i64 r) ∧ IxP l.length g r ∧ Below w.heap.size w w' := by
  obtain ⟨a1, c1, rfl, -, hl1, -, hcell⟩ := h.form
  have HG := Lib.hid hg
  clear h hg
  go_enter Tryz.func90, Tryz.ntmps90
  go_wp2
  go_loopw [8] (fun i wx => IxR l.length g w i wx) (fun i _ => l.length - (intOf i).toNat)
  case atStart => exact ⟨0, by omega, rfl, fun j hj => absurd hj (Nat.not_lt_zero _), Below.refl _ _⟩
  case round =>
    obtain ⟨k, hk, rfl, hall, hb⟩ := hrel
    have HA := Lib.hid hall
    clear hall
    by_cases hlt : k < l.length
    · obtain ⟨b, off, rfl, hbl, hc⟩ := hcell (by omega)
      have hk1 := (bcell hb _ _ hbl).trans (hc k hlt)
      clear hc hcell
      cases g1 : g k with
      | true =>
        have HK : Hid (_ = true) := Lib.hid g1
        have HC := Lib.hid (HG.out _ hb k hlt)
        rw [g1] at HC
        clear g1
        go_wp2_with (go_at_call 119; refine (HC.out).mono ?_; rintro e w1 ⟨rfl, hb1⟩)
        go_ret
        exact ⟨_, rfl, .inr ⟨k, hlt, rfl, HK.out, HA.out⟩, bon hb hb1⟩
      | false =>
        have HN := Lib.hid (lt_succ_all HA.out g1)
        have HC := Lib.hid (HG.out _ hb k hlt)
        rw [g1] at HC
        clear g1
        go_wp2_with (go_at_call 119; refine (HC.out).mono ?_; rintro e w1 ⟨rfl, hb1⟩)
        first
          | (go_roundw
             case rel => (exact ⟨k + 1, by omega, by go_num, HN.out, bon hb hb1⟩)
             case measure => (simp [intOf]; omega))
          | (refine ⟨?_, ?_⟩
             · (exact ⟨k + 1, by omega, by go_num, HN.out, bon hb hb1⟩)
             · (simp [intOf]; omega))
    · have HN : Hid (∀ j, j < l.length → g j = false) := Lib.hid (fun j hj => HA.out j (by omega))
      go_wp2
      go_ret
      exact ⟨_, rfl, .inl ⟨rfl, HN.out⟩, hb⟩
set_option maxHeartbeats 1000000 in
theorem ctn_bd (v : Value) (l : List Int) (w : World) (h : Ints w v l) (g : Nat → Bool) (cap : Value)
    (hg : ∀ w', Below w.heap.size w w' → ∀ j, j < l.length → Calls Tryz.prog 119 #[.int .i64 (ix l j), cap] w' fun e w'' => e = .returned (.bool (g j)) ∧ Below w'.heap.size w' w'') :
    Calls Tryz.prog 76 #[v, .func (.func 119) #[] #[cap]] w fun e w' => e = .returned (.bool (anyR l.length g)) ∧ Below w.heap.size w w' := by
  have HI := Lib.hid (idx_bd v l w h g cap hg)
  obtain ⟨a1, c1, rfl, -⟩ := h.form
  clear h hg
  go_enter Tryz.func76, Tryz.ntmps76
  go_wp2_with (go_at_call 90; refine (HI.out).mono ?_; rintro e w1 ⟨r, rfl, hr, hb1⟩; have HR := Lib.hid hr; clear hr)
  go_ret
  exact ⟨ret_bool HR.out.any, hb1⟩
def BdRel (m : List Int) (r : GR) (s i : Value) : Prop := ∃ k : Nat, k ≤ r.body.length ∧ i = .int .i64 k ∧ s = .int .i64 (wsum m r k)
theorem allR_not {n : Nat} {f : Nat → Bool} : (!anyR n fun j => !f j) = allR n f := by
  unfold anyR allR
  induction List.range n with
  | nil => rfl
  | cons x l ih => simp only [List.any_cons, List.all_cons, Bool.not_or, ih, Bool.not_not]
set_option maxHeartbeats 2000000 in
theorem bodyf_any (v : Value) (r : GR) (m : List Int) (mb : Nat) (w : World) (hr : RuleIs w v r) (h : InM w mb m) (hok : BodyOk r) :
    Calls Tryz.prog 78 #[v, .func (.func 121) #[] #[.pointer (some ⟨mb, 0, none⟩)]] w fun e w' => e = .returned (.bool (bodyT r m)) ∧ Below w.heap.size w w' := by
  obtain ⟨vh, vb, vw, rfl, hsl⟩ := hr
  have hal := bal (bal (Below.refl w.heap.size w) (.cells #[.bool r.choice, vh, .bool r.sum, .int .i64 r.bound, vb, vw] 64)) (.cells #[.func (.func 121) #[] #[.pointer (some ⟨mb, 0, none⟩)]] 82)
  have HBX : Hid (Blk ((w.alloc (.cells #[.bool r.choice, vh, .bool r.sum, .int .i64 r.bound, vb, vw] 64)).alloc (.cells #[.func (.func 121) #[] #[.pointer (some ⟨mb, 0, none⟩)]] 82)) (w.heap.size + 1) [.func (.func 121) #[] #[.pointer (some ⟨mb, 0, none⟩)]] 82) := Lib.hid (by repeat first | (refine Blk.newAt _ _ _ ?_; first | rfl | (simp only [World.size_alloc]; done) | (simp only [World.size_alloc]; omega)) | refine Blk.alloc ?_ _)
  obtain ⟨a2, c2, rfl, -, hl2, -, hcb⟩ := hsl.body.form
  obtain ⟨a3, c3, rfl, -, hl3, -, hcw⟩ := hsl.wts.form
  have HB := Lib.hid (hsl.body.below hal)
  have HIN := Lib.hid (h.below hal)
  have hfit := hsl.body.2
  have hbd := hsl.bound
  unfold InI at hbd
  cases hs : r.sum with
  | false =>
    rw [hs] at hal HBX HB HIN
    have HF : Hid (bodyT r m = !anyR r.body.length (fun j => !litT m (ix r.body j))) := Lib.hid (by unfold bodyT; rw [hs, allR_not]; rfl)
    have HC : Hid (∀ w', Below ((w.alloc (.cells #[.bool r.choice, vh, .bool false, .int .i64 r.bound, .slice a2 r.body.length c2, .slice a3 r.w.length c3] 64)).alloc (.cells #[.func (.func 121) #[] #[.pointer (some ⟨mb, 0, none⟩)]] 82)).heap.size ((w.alloc (.cells #[.bool r.choice, vh, .bool false, .int .i64 r.bound, .slice a2 r.body.length c2, .slice a3 r.w.length c3] 64)).alloc (.cells #[.func (.func 121) #[] #[.pointer (some ⟨mb, 0, none⟩)]] 82)) w' → ∀ j, j < r.body.length → Calls Tryz.prog 119 #[.int .i64 (ix r.body j), .pointer (some ⟨w.heap.size + 1, 0, none⟩)] w' fun e w'' => e = .returned (.bool (!litT m (ix r.body j))) ∧ Below w'.heap.size w' w'') :=
      Lib.hid (fun w' hb j hj => (bodyc_any _ m mb _ w' (HIN.out.below hb) (HBX.out.below hb) ⟨hok.lit j hj, (hfit j).2⟩).mono fun e w'' ⟨e1, e2⟩ => ⟨e1, e2 ▸ Below.refl _ _⟩)
    clear hsl hs h hok hcb hcw
    go_enter Tryz.func78, Tryz.ntmps78
    go_wp2_with (go_at_call 76; (with_reducible refine (ctn_bd _ r.body _ HB.out (fun j => !litT m (ix r.body j)) _ HC.out).mono ?_); rintro e w1 ⟨rfl, hb1⟩)
    go_ret
    exact ⟨ret_bool HF.out.symm, bon hal hb1⟩
  | true =>
    rw [hs] at hal HBX HB HIN
    have HF : Hid (bodyT r m = decide (r.bound ≤ wsum m r r.body.length)) := Lib.hid (by unfold bodyT; rw [hs]; rfl)
    have HWB : Hid (∀ k, k ≤ r.body.length → 0 ≤ wsum m r k ∧ wsum m r k ≤ 1048576 * k) := Lib.hid (fun k hk => wsum_bound hok hs k hk)
    have hwl := hok.wlen hs
    have hlen := hok.len
    have HW : Hid (∀ j, j < r.w.length → 0 ≤ ix r.w j ∧ ix r.w j ≤ 1048576) := Lib.hid (hok.w hs)
    have HLT : Hid (∀ j, j < r.body.length → -9223372036854775808 < ix r.body j ∧ ix r.body j ≤ 9223372036854775807) := Lib.hid (fun j hj => ⟨hok.lit j hj, (hfit j).2⟩)
    have HWL := Lib.hid hwl
    have q0 := (Blk.newAt w [.bool r.choice, vh, .bool true, .int .i64 r.bound, .slice a2 r.body.length c2, .slice a3 r.w.length c3] 64 (b := w.heap.size) rfl).alloc (.cells #[.func (.func 121) #[] #[.pointer (some ⟨mb, 0, none⟩)]] 82)
    have kq := q0.cell
    have kx := HBX.out.cell 0
    have HCB : Hid (∀ j, j < r.body.length → ∃ b off, a2 = some ⟨b, off, none⟩ ∧ ((w.alloc (.cells #[.bool r.choice, vh, .bool true, .int .i64 r.bound, .slice a2 r.body.length c2, .slice a3 r.w.length c3] 64)).alloc (.cells #[.func (.func 121) #[] #[.pointer (some ⟨mb, 0, none⟩)]] 82)).cell? ⟨b, off + j, none⟩ = some (.int .i64 (ix r.body j))) := Lib.hid (fun j hj => by
      obtain ⟨b, off, e, hl, hc⟩ := hcb (by omega)
      exact ⟨b, off, e, (bcell hal _ _ hl).trans (hc j hj)⟩)
    have HCW : Hid (∀ j, j < r.w.length → ∃ b off, a3 = some ⟨b, off, none⟩ ∧ ((w.alloc (.cells #[.bool r.choice, vh, .bool true, .int .i64 r.bound, .slice a2 r.body.length c2, .slice a3 r.w.length c3] 64)).alloc (.cells #[.func (.func 121) #[] #[.pointer (some ⟨mb, 0, none⟩)]] 82)).cell? ⟨b, off + j, none⟩ = some (.int .i64 (ix r.w j))) := Lib.hid (fun j hj => by
      obtain ⟨b, off, e, hl, hc⟩ := hcw (by omega)
      exact ⟨b, off, e, (bcell hal _ _ hl).trans (hc j hj)⟩)
    have HAL := Lib.hid hal
    clear hsl hs h hok hcb hcw hal HBX q0 hwl
    go_enter Tryz.func78, Tryz.ntmps78
    go_upto_region 4 with fail
    generalize (w.alloc (.cells #[.bool r.choice, vh, .bool true, .int .i64 r.bound, .slice a2 r.body.length c2, .slice a3 r.w.length c3] 64)).alloc (.cells #[.func (.func 121) #[] #[.pointer (some ⟨mb, 0, none⟩)]] 82) = W at *
    go_wp2
    go_loop [5, 19] (fun s i => BdRel m r s i) (fun _ i => r.body.length - (intOf i).toNat)
    case atStart => exact ⟨0, Nat.zero_le _, rfl, rfl⟩
    case round =>
      obtain ⟨k, hk, rfl, rfl⟩ := hrel
      have hwb := HWB.out k hk
      by_cases hlt : k < r.body.length
      · obtain ⟨b1, o1, rfl, hc1⟩ := HCB.out k hlt
        obtain ⟨b2, o2, rfl, hc2⟩ := HCW.out k (by have := HWL.out; omega)
        have hltw : k < r.w.length := by have := HWL.out; omega
        have hwk := HW.out k hltw
        have HLK := Lib.hid (HLT.out k hlt)
        cases hh : litT m (ix r.body k) with
        | true =>
          have HN : Hid (wsum m r (k + 1) = wsum m r k + ix r.w k) := Lib.hid (by rw [wsum, hh]; rfl)
          have HHH := Lib.hid hh
          clear hh
          go_wp2_with (go_at_call 120; (with_reducible refine (holdsL_any _ m _ _ HIN.out HLK.out).mono ?_); rintro e w1 ⟨e1, rfl⟩; rw [HHH.out] at e1; subst e1)
          first
            | (go_round
               case rel => (exact ⟨k + 1, by omega, by go_num, by rw [HN.out]⟩)
               case measure => (simp [intOf]; omega))
            | (refine ⟨?_, ?_⟩
               · (exact ⟨k + 1, by omega, by go_num, by rw [HN.out]⟩)
               · (simp [intOf]; omega))
        | false =>
          have HN : Hid (wsum m r (k + 1) = wsum m r k) := Lib.hid (by rw [wsum, hh]; simp)
          have HHH := Lib.hid hh
          clear hh
          go_wp2_with (go_at_call 120; (with_reducible refine (holdsL_any _ m _ _ HIN.out HLK.out).mono ?_); rintro e w1 ⟨e1, rfl⟩; rw [HHH.out] at e1; subst e1)
          first
            | (go_round
               case rel => (exact ⟨k + 1, by omega, by go_num, by rw [HN.out]⟩)
               case measure => (simp [intOf]; omega))
            | (refine ⟨?_, ?_⟩
               · (exact ⟨k + 1, by omega, by go_num, by rw [HN.out]⟩)
               · (simp [intOf]; omega))
      · obtain rfl : k = r.body.length := by omega
        go_wp2
        go_ret
        exact ⟨ret_bool HF.out.symm, HAL.out⟩
set_option maxHeartbeats 1000000 in
theorem idx_hd (v : Value) (l : List Int) (w : World) (h : Ints w v l) (g : Nat → Bool) (cap : Value)
    (hg : ∀ w', Below w.heap.size w w' → ∀ j, j < l.length → Calls Tryz.prog 121 #[.int .i64 (ix l j), cap] w' fun e w'' => e = .returned (.bool (g j)) ∧ Below w'.heap.size w' w'') :
    Calls Tryz.prog 90 #[v, .func (.func 121) #[] #[cap]] w fun e w' => ∃ r, e = .returned (.int .i64 r) ∧ IxP l.length g r ∧ Below w.heap.size w w' := by
  obtain ⟨a1, c1, rfl, -, hl1, -, hcell⟩ := h.form
  have HG := Lib.hid hg
  clear h hg
  go_enter Tryz.func90, Tryz.ntmps90
  go_wp2
  go_loopw [8] (fun i wx => IxR l.length g w i wx) (fun i _ => l.length - (intOf i).toNat)
  case atStart => exact ⟨0, by omega, rfl, fun j hj => absurd hj (Nat.not_lt_zero _), Below.refl _ _⟩
  case round =>
    obtain ⟨k, hk, rfl, hall, hb⟩ := hrel
    have HA := Lib.hid hall
    clear hall
    by_cases hlt : k < l.length
    · obtain ⟨b, off, rfl, hbl, hc⟩ := hcell (by omega)
      have hk1 := (bcell hb _ _ hbl).trans (hc k hlt)
      clear hc hcell
      cases g1 : g k with
      | true =>
        have HK : Hid (_ = true) := Lib.hid g1
        have HC := Lib.hid (HG.out _ hb k hlt)
        rw [g1] at HC
        clear g1
        go_wp2_with (go_at_call 121; refine (HC.out).mono ?_; rintro e w1 ⟨rfl, hb1⟩)
        go_ret
        exact ⟨_, rfl, .inr ⟨k, hlt, rfl, HK.out, HA.out⟩, bon hb hb1⟩
      | false =>
        have HN := Lib.hid (lt_succ_all HA.out g1)
        have HC := Lib.hid (HG.out _ hb k hlt)
        rw [g1] at HC
        clear g1
        go_wp2_with (go_at_call 121; refine (HC.out).mono ?_; rintro e w1 ⟨rfl, hb1⟩)
        first
          | (go_roundw
             case rel => (exact ⟨k + 1, by omega, by go_num, HN.out, bon hb hb1⟩)
             case measure => (simp [intOf]; omega))
          | (refine ⟨?_, ?_⟩
             · (exact ⟨k + 1, by omega, by go_num, HN.out, bon hb hb1⟩)
             · (simp [intOf]; omega))
    · have HN : Hid (∀ j, j < l.length → g j = false) := Lib.hid (fun j hj => HA.out j (by omega))
      go_wp2
      go_ret
      exact ⟨_, rfl, .inl ⟨rfl, HN.out⟩, hb⟩
set_option maxHeartbeats 1000000 in
theorem ctn_hd (v : Value) (l : List Int) (w : World) (h : Ints w v l) (g : Nat → Bool) (cap : Value)
    (hg : ∀ w', Below w.heap.size w w' → ∀ j, j < l.length → Calls Tryz.prog 121 #[.int .i64 (ix l j), cap] w' fun e w'' => e = .returned (.bool (g j)) ∧ Below w'.heap.size w' w'') :
    Calls Tryz.prog 76 #[v, .func (.func 121) #[] #[cap]] w fun e w' => e = .returned (.bool (anyR l.length g)) ∧ Below w.heap.size w w' := by
  have HI := Lib.hid (idx_hd v l w h g cap hg)
  obtain ⟨a1, c1, rfl, -⟩ := h.form
  clear h hg
  go_enter Tryz.func76, Tryz.ntmps76
  go_wp2_with (go_at_call 90; refine (HI.out).mono ?_; rintro e w1 ⟨r, rfl, hr, hb1⟩; have HR := Lib.hid hr; clear hr)
  go_ret
  exact ⟨ret_bool HR.out.any, hb1⟩
def satT (r : GR) (m : List Int) : Bool := r.choice || !bodyT r m || anyR r.head.length (fun j => decide (ix r.head j ∈ m))
theorem lits_le2 {l : List Int} {n : Int} (h : orderedB l n = true) (hn : 0 ≤ n) : (l.length : Int) ≤ 2 * n := by
  have hp : (l.map litKey).Pairwise (· < ·) := by
    rw [List.pairwise_iff_getElem]
    intro i j hi hj hij
    simp only [List.length_map] at hi hj
    have := ordered_lt h j hj i hij
    simpa [ix, List.getD_eq_getElem?_getD, List.getElem?_eq_getElem hi, List.getElem?_eq_getElem hj] using this
  have := lt_length (l.map litKey) 2 (2 * n + 2) hp (fun x hx => by
    obtain ⟨y, hy, rfl⟩ := List.mem_map.1 hx
    have := ordered_lit h hy
    unfold litKey
    split <;> omega) (by omega)
  simp at this; omega
structure BodyV (r : GR) (n : Int) : Prop where
  rng : 0 ≤ n ∧ n ≤ 4000
  ord : orderedB r.body n = true
  sum : r.sum = true → weightsB r.w r.body.length = true
  bound : 0 ≤ r.bound
theorem bodyV_valid {p : GP} (h : validE p = 0) {k : Nat} (hk : k < p.rules.length) : BodyV (ixR p.rules k) p.n :=
  let hv := validP h; ⟨hv.n, hv.body k hk, hv.sum k hk, hv.bound k hk⟩
theorem BodyV.ok {r : GR} {n : Int} (h : BodyV r n) : BodyOk r where
  len := by have := lits_le2 h.ord h.rng.1; have := h.rng; omega
  lit := fun j hj => by have := ordered_lit h.ord (ix_mem hj); have := h.rng; omega
  wlen := fun hs => by have := (weights_sum (h.sum hs)).1; omega
  w := fun hs j hj => by
    have h1 := weights_sum (h.sum hs)
    have h2 := h1.2.1 j hj
    have h3 := h1.2.2 (j + 1) (by omega)
    have h4 := h1.2.2 j (by omega)
    unfold sumTo at h3
    omega
theorem bodyOk_valid {p : GP} (h : validE p = 0) {k : Nat} (hk : k < p.rules.length) : BodyOk (ixR p.rules k) := (bodyV_valid h hk).ok
set_option maxHeartbeats 2000000 in
theorem sat_any (v : Value) (r : GR) (m : List Int) (mb : Nat) (w : World) (hr : RuleIs w v r) (h : InM w mb m) (hok : BodyOk r) :
    Calls Tryz.prog 166 #[v, .func (.func 121) #[] #[.pointer (some ⟨mb, 0, none⟩)]] w fun e w' => e = .returned (.bool (satT r m)) ∧ Below w.heap.size w w' := by
  obtain ⟨vh, vb, vw, rfl, hsl⟩ := hr
  have hal := bal (Below.refl w.heap.size w) (.cells #[.bool r.choice, vh, .bool r.sum, .int .i64 r.bound, vb, vw] 64)
  have HBX := Lib.hid (Blk.new w [.bool r.choice, vh, .bool r.sum, .int .i64 r.bound, vb, vw] 64)
  obtain ⟨a1, c1, rfl, -, hl1, -, -⟩ := hsl.head.form
  obtain ⟨a2, c2, rfl, -⟩ := hsl.body.form
  obtain ⟨a3, c3, rfl, -⟩ := hsl.wts.form
  have HR : Hid (RuleIs (w.alloc (.cells #[.bool r.choice, .slice a1 r.head.length c1, .bool r.sum, .int .i64 r.bound, .slice a2 r.body.length c2, .slice a3 r.w.length c3] 64)) (.agg #[.bool r.choice, .slice a1 r.head.length c1, .bool r.sum, .int .i64 r.bound, .slice a2 r.body.length c2, .slice a3 r.w.length c3]) r) := Lib.hid ⟨_, _, _, rfl, hsl.below hal⟩
  have HH := Lib.hid (hsl.head.below hal)
  have HIN := Lib.hid (h.below hal)
  have HOK := Lib.hid hok
  have HAL := Lib.hid hal
  clear hsl h hok hal
  cases hc : r.choice with
  | true =>
    have HF : Hid (satT r m = true) := Lib.hid (by unfold satT; rw [hc]; rfl)
    rw [hc] at HR HBX HH HIN HAL
    clear hc
    go_enter Tryz.func166, Tryz.ntmps166
    go_wp2
    go_ret
    exact ⟨ret_bool HF.out.symm, HAL.out⟩
  | false =>
    have kx := HBX.out.cell
    have hlt := HBX.out.lt
    rw [hc] at HR HBX HH HIN HAL kx hlt
    cases hb : bodyT r m with
    | false =>
      have HF : Hid (satT r m = true) := Lib.hid (by unfold satT; rw [hc, hb]; rfl)
      have HBT := Lib.hid hb
      clear hc hb
      go_enter Tryz.func166, Tryz.ntmps166
      go_wp2_with (go_at_call 78; (with_reducible refine (bodyf_any _ r m mb _ HR.out HIN.out HOK.out).mono ?_); rintro e w1 ⟨e1, hb1⟩; rw [HBT.out] at e1; subst e1)
      go_ret
      exact ⟨ret_bool HF.out.symm, bon HAL.out hb1⟩
    | true =>
      have HF : Hid (satT r m = anyR r.head.length (fun j => decide (ix r.head j ∈ m))) := Lib.hid (by unfold satT; rw [hc, hb]; rfl)
      have HBT := Lib.hid hb
      clear hc hb
      go_enter Tryz.func166, Tryz.ntmps166
      go_wp2_with (first
        | (go_at_call 78; (with_reducible refine (bodyf_any _ r m mb _ HR.out HIN.out HOK.out).mono ?_); rintro e w1 ⟨e1, hb1⟩; rw [HBT.out] at e1; subst e1; have kx1 := fun o => (bcell hb1 _ o hlt).trans (kx o))
        | (go_at_call 76; (with_reducible refine (ctn_hd _ r.head _ (HH.out.below hb1) (fun j => decide (ix r.head j ∈ m)) _ (fun w' hb j hj => (memb1_any _ m mb w' ((HIN.out.below hb1).below hb)).mono fun e w'' ⟨e1, e2⟩ => ⟨e1, e2 ▸ Below.refl _ _⟩)).mono ?_); rintro e w2 ⟨rfl, hb2⟩))
      go_ret
      exact ⟨ret_bool HF.out.symm, bon (bon HAL.out hb1) hb2⟩
theorem brokc_any (v : Value) (r : GR) (m : List Int) (mb cb : Nat) (w : World) (hr : RuleIs w v r) (h : InM w mb m) (hb : Blk w cb [.func (.func 121) #[] #[.pointer (some ⟨mb, 0, none⟩)]] 82) (hok : BodyOk r) :
    Calls Tryz.prog 165 #[v, .pointer (some ⟨cb, 0, none⟩)] w fun e w' => e = .returned (.bool (!satT r m)) ∧ Below w.heap.size w w' := by
  obtain ⟨vh, vb, vw, rfl, hsl⟩ := hr
  have hal := bal (Below.refl w.heap.size w) (.cells #[.bool r.choice, vh, .bool r.sum, .int .i64 r.bound, vb, vw] 64)
  obtain ⟨a1, c1, rfl, -, hl1, -, -⟩ := hsl.head.form
  obtain ⟨a2, c2, rfl, -⟩ := hsl.body.form
  obtain ⟨a3, c3, rfl, -⟩ := hsl.wts.form
  have HR : Hid (RuleIs (w.alloc (.cells #[.bool r.choice, .slice a1 r.head.length c1, .bool r.sum, .int .i64 r.bound, .slice a2 r.body.length c2, .slice a3 r.w.length c3] 64)) (.agg #[.bool r.choice, .slice a1 r.head.length c1, .bool r.sum, .int .i64 r.bound, .slice a2 r.body.length c2, .slice a3 r.w.length c3]) r) := Lib.hid ⟨_, _, _, rfl, hsl.below hal⟩
  have HIN := Lib.hid (h.below hal)
  have HOK := Lib.hid hok
  have kb := hb.cell 0
  have hlt := hb.lt
  have HAL := Lib.hid hal
  clear hsl h hok hb hal
  go_enter Tryz.func165, Tryz.ntmps165
  go_wp2_with (go_at_call 166; (with_reducible refine (sat_any _ r m mb _ HR.out HIN.out HOK.out).mono ?_); rintro e w1 ⟨rfl, hb1⟩)
  go_ret
  exact ⟨rfl, bon HAL.out hb1⟩
set_option maxHeartbeats 1000000 in
theorem idxR_brk (v : Value) (l : List GR) (w : World) (h : RulesIs w v l) (g : Nat → Bool) (cap : Value)
    (hg : ∀ w', Below w.heap.size w w' → ∀ j, j < l.length → ∀ u, RuleIs w' u (ixR l j) → Calls Tryz.prog 165 #[u, cap] w' fun e w'' => e = .returned (.bool (g j)) ∧ Below w'.heap.size w' w'') :
    Calls Tryz.prog 40 #[v, .func (.func 165) #[] #[cap]] w fun e w' => ∃ r, e = .returned (.int .i64 r) ∧ IxP l.length g r ∧ Below w.heap.size w w' := by
  obtain ⟨a1, c1, rfl, -, hl1, -, hcell⟩ := h.form
  have HG := Lib.hid hg
  clear h hg
  go_enter Tryz.func40, Tryz.ntmps40
  go_wp2
  go_loopw [8] (fun i wx => IxR l.length g w i wx) (fun i _ => l.length - (intOf i).toNat)
  case atStart => exact ⟨0, by omega, rfl, fun j hj => absurd hj (Nat.not_lt_zero _), Below.refl _ _⟩
  case round =>
    obtain ⟨k, hk, rfl, hall, hb⟩ := hrel
    have HA := Lib.hid hall
    clear hall
    by_cases hlt : k < l.length
    · obtain ⟨b, off, rfl, hbl, hc⟩ := hcell (by omega)
      obtain ⟨vh, vb, vw, ⟨k0, k1, k2, k3, k4, k5⟩, hsl⟩ := hc k hlt
      have hbr := hsl.below hb
      have hk0 := (bcell hb _ _ hbl).trans k0
      have hk1 := (bcell hb _ _ hbl).trans k1
      have hk2 := (bcell hb _ _ hbl).trans k2
      have hk3 := (bcell hb _ _ hbl).trans k3
      have hk4 := (bcell hb _ _ hbl).trans k4
      have hk5 := (bcell hb _ _ hbl).trans k5
      have HRU : Hid (RuleIs wr (.agg #[.bool (ixR l k).choice, vh, .bool (ixR l k).sum, .int .i64 (ixR l k).bound, vb, vw]) (ixR l k)) := Lib.hid ⟨vh, vb, vw, rfl, hbr⟩
      clear hc hcell k0 k1 k2 k3 k4 k5 hsl hbr
      cases g1 : g k with
      | true =>
        have HK : Hid (_ = true) := Lib.hid g1
        have HC := Lib.hid (HG.out _ hb k hlt _ HRU.out)
        rw [g1] at HC
        clear g1
        go_wp2_with (go_at_call 165; refine (HC.out).mono ?_; rintro e w1 ⟨rfl, hb1⟩)
        go_ret
        exact ⟨_, rfl, .inr ⟨k, hlt, rfl, HK.out, HA.out⟩, bon hb hb1⟩
      | false =>
        have HN := Lib.hid (lt_succ_all HA.out g1)
        have HC := Lib.hid (HG.out _ hb k hlt _ HRU.out)
        rw [g1] at HC
        clear g1
        go_wp2_with (go_at_call 165; refine (HC.out).mono ?_; rintro e w1 ⟨rfl, hb1⟩)
        first
          | (go_roundw
             case rel => (exact ⟨k + 1, by omega, by go_num, HN.out, bon hb hb1⟩)
             case measure => (simp [intOf]; omega))
          | (refine ⟨?_, ?_⟩
             · (exact ⟨k + 1, by omega, by go_num, HN.out, bon hb hb1⟩)
             · (simp [intOf]; omega))
    · have HN : Hid (∀ j, j < l.length → g j = false) := Lib.hid (fun j hj => HA.out j (by omega))
      go_wp2
      go_ret
      exact ⟨_, rfl, .inl ⟨rfl, HN.out⟩, hb⟩
def checkE (p : GP) (m : List Int) : Int := if validE p ≠ 0 then validE p else if setQ p.n m then 0 else 2
set_option maxHeartbeats 1000000 in
theorem rcheck_any (v vm : Value) (p : GP) (m : List Int) (w : World) (h : ProgIs w v p) (hm : Ints w vm m) :
    Calls Tryz.prog 150 #[v, vm] w fun e w' => e = .returned (.int .i64 (checkE p m)) ∧ Below w.heap.size w w' := by
  have h0 := h
  obtain ⟨vn, vs, vr, vmn, rfl, -⟩ := h
  have hal := bal (Below.refl w.heap.size w) (.cells #[.int .i64 p.n, vn, vs, vr, vmn] 27)
  have HBX := Lib.hid (Blk.new w [.int .i64 p.n, vn, vs, vr, vmn] 27)
  have kx := HBX.out.cell
  have hlt := HBX.out.lt
  have HP := Lib.hid (h0.below hal)
  have HM := Lib.hid (hm.below hal)
  have HAL := Lib.hid hal
  obtain ⟨am, cm, rfl, -⟩ := hm.form
  clear h0 hm hal
  by_cases hv : validE p = 0
  · have h1 : (validE p != 0) = false := by simp [hv]
    have h2 : (validE p == 0) = true := by simp [hv]
    cases hs : setQ p.n m with
    | true =>
      have HF : Hid (checkE p m = 0) := Lib.hid (by unfold checkE; rw [if_neg (by simp [hv]), hs]; rfl)
      clear hv
      go_enter Tryz.func150, Tryz.ntmps150
      go_wp2_with (first | (go_at_call 65; (with_reducible refine (valid_any _ p _ HP.out).mono ?_); rintro e w1 ⟨e1, hb1⟩; subst e1; have kx1 := fun o => (bcell hb1 _ o hlt).trans (kx o)) | (go_at_call 181; (with_reducible refine (redSet_any _ p.n m _ (HM.out.below hb1)).mono ?_); rintro e w2 ⟨rfl, rfl⟩))
      go_ret
      exact ⟨ret_int HF.out.symm, bon HAL.out hb1⟩
    | false =>
      have HF : Hid (checkE p m = 2) := Lib.hid (by unfold checkE; rw [if_neg (by simp [hv]), hs]; rfl)
      clear hv
      go_enter Tryz.func150, Tryz.ntmps150
      go_wp2_with (first | (go_at_call 65; (with_reducible refine (valid_any _ p _ HP.out).mono ?_); rintro e w1 ⟨e1, hb1⟩; subst e1; have kx1 := fun o => (bcell hb1 _ o hlt).trans (kx o)) | (go_at_call 181; (with_reducible refine (redSet_any _ p.n m _ (HM.out.below hb1)).mono ?_); rintro e w2 ⟨rfl, rfl⟩))
      go_ret
      exact ⟨ret_int HF.out.symm, bon HAL.out hb1⟩
  · have h1 : (validE p != 0) = true := by simp [hv]
    have h2 : (validE p == 0) = false := by simp [hv]
    have HF : Hid (checkE p m = validE p) := Lib.hid (by unfold checkE; rw [if_pos hv])
    clear hv
    go_enter Tryz.func150, Tryz.ntmps150
    go_wp2_with (first | (go_at_call 65; (with_reducible refine (valid_any _ p _ HP.out).mono ?_); rintro e w1 ⟨e1, hb1⟩; subst e1; have kx1 := fun o => (bcell hb1 _ o hlt).trans (kx o)) | (go_at_call 181; (with_reducible refine (redSet_any _ p.n m _ (HM.out.below hb1)).mono ?_); rintro e w2 ⟨rfl, rfl⟩))
    go_ret
    exact ⟨ret_int HF.out.symm, bon HAL.out hb1⟩
def BrokPost (p : GP) (m : List Int) (w : World) (e : Ending) (w' : World) : Prop :=
  ∃ r : Int, e = .returned (.tuple #[.int .i64 r, .int .i64 (checkE p m)]) ∧ (checkE p m ≠ 0 → r = 0) ∧ (checkE p m = 0 → IxP p.rules.length (fun i => !satT (ixR p.rules i) m) r) ∧ Below w.heap.size w w'
theorem checkE_ok {p : GP} {m : List Int} (h : checkE p m = 0) : validE p = 0 ∧ setQ p.n m = true := by
  unfold checkE at h
  split at h
  · rename_i h1; exact absurd h h1
  · rename_i h1
    split at h
    · rename_i h2; exact ⟨Decidable.not_not.1 h1, h2⟩
    · cases h
theorem inc_le {l : List Int} {n : Int} (h : setQ n l = true) (hn : 0 ≤ n) : (l.length : Int) ≤ n := by
  have hp : l.Pairwise (· < ·) := by
    rw [List.pairwise_iff_getElem]
    intro i j hi hj hij
    have key : ∀ d : Nat, ∀ i : Nat, i + d + 1 < l.length → ix l i < ix l (i + d + 1) := by
      intro d
      induction d with
      | zero =>
        intro i hi
        have := allR_get h (i + 1) (by omega)
        unfold setTo at this
        simp only [Bool.and_eq_true, Bool.or_eq_true, decide_eq_true_eq, beq_iff_eq, Nat.add_sub_cancel] at this
        exact this.2.resolve_left (by omega)
      | succ d ih =>
        intro i hi
        have h1 := ih i (by omega)
        have := allR_get h (i + d + 1 + 1) (by omega)
        unfold setTo at this
        simp only [Bool.and_eq_true, Bool.or_eq_true, decide_eq_true_eq, beq_iff_eq, Nat.add_sub_cancel] at this
        have h2 := this.2.resolve_left (by omega)
        exact Int.lt_trans h1 h2
    have := key (j - i - 1) i (by omega)
    rw [show i + (j - i - 1) + 1 = j by omega] at this
    simpa [ix, List.getD_eq_getElem?_getD, List.getElem?_eq_getElem hi, List.getElem?_eq_getElem hj] using this
  have := lt_length l 1 (n + 1) hp (fun x hx => by
    obtain ⟨j, hj, rfl⟩ := List.mem_iff_getElem.1 hx
    have := allR_get h j hj
    unfold setTo at this
    simp only [Bool.and_eq_true, decide_eq_true_eq] at this
    have e : ix l j = l[j] := by simp [ix, List.getD_eq_getElem?_getD, List.getElem?_eq_getElem hj]
    rw [e] at this
    omega) (by omega)
  omega
set_option maxHeartbeats 1000000 in
theorem broken_any (v vm : Value) (p : GP) (m : List Int) (w : World) (h : ProgIs w v p) (hm : Ints w vm m) :
    Calls Tryz.prog 123 #[v, vm] w (BrokPost p m w) := by
  have h0 := h
  obtain ⟨vn, vs, vr, vmn, rfl, hps⟩ := h
  have hal := bal (Below.refl w.heap.size w) (.cells #[.int .i64 p.n, vn, vs, vr, vmn] 27)
  have HBX := Lib.hid (Blk.new w [.int .i64 p.n, vn, vs, vr, vmn] 27)
  have kx := HBX.out.cell
  have hlt := HBX.out.lt
  have HP := Lib.hid (h0.below hal)
  have HM := Lib.hid (hm.below hal)
  have HRU := Lib.hid (hps.rules.below hal)
  obtain ⟨a1, c1, rfl, -⟩ := hps.rules.form
  have HAL := Lib.hid hal
  obtain ⟨am, cm, rfl, -⟩ := hm.form
  clear h0 hm hal hps
  by_cases hv : checkE p m = 0
  · have h1 : (checkE p m != 0) = false := by simp [hv]
    have HC := Lib.hid hv
    have HML : Hid (m.length ≤ 1000000000) := Lib.hid (by have h2 := checkE_ok hv; have h3 := inc_le h2.2 (validP h2.1).n.1; have := (validP h2.1).n; omega)
    have HOK : Hid (∀ k, k < p.rules.length → BodyOk (ixR p.rules k)) := Lib.hid (fun k hk => bodyOk_valid (checkE_ok hv).1 hk)
    clear hv
    go_enter Tryz.func123, Tryz.ntmps123
    go_wp2_with (first
      | (go_at_call 150; (with_reducible refine (rcheck_any _ _ p m _ HP.out HM.out).mono ?_); rintro e w1 ⟨rfl, hb1⟩; have kx1 := fun o => (bcell hb1 _ o hlt).trans (kx o); have hz1 := hb1.size)
      | (go_at_call 79; (with_reducible refine (member_any _ m _ (HM.out.below hb1) HML.out).mono ?_); rintro e w2 ⟨mb, rfl, hin, hb2⟩; have HIN := Lib.hid hin; have kx2 := fun o => (bcell hb2 _ o (Nat.lt_of_lt_of_le hlt hz1)).trans (kx1 o); have hlt2 := Nat.lt_of_lt_of_le hlt (Nat.le_trans hz1 hb2.size); clear hin)
      | (go_at_call 40; (with_reducible refine (idxR_brk _ p.rules _ (HRU.out.below (bon hb1 (bal hb2 _))) (fun i => !satT (ixR p.rules i) m) _ (fun w' hb j hj u hu => brokc_any u _ m mb _ w' hu ((HIN.out.below (bal (Below.refl _ _) _)).below hb) ((Blk.new w2 _ _).below hb) (HOK.out j hj))).mono ?_); rintro e w3 ⟨r, rfl, hr, hb3⟩; have HRR := Lib.hid hr; clear hr))
    go_ret2
    exact ⟨r, by rw [HC.out]; rfl, fun hne => absurd HC.out hne, fun _ => HRR.out, bon (bon HAL.out (bon hb1 (bal hb2 _))) hb3⟩
  · have h1 : (checkE p m != 0) = true := by simp [hv]
    have HC := Lib.hid hv
    clear hv
    go_enter Tryz.func123, Tryz.ntmps123
    go_wp2_with (first
      | (go_at_call 150; (with_reducible refine (rcheck_any _ _ p m _ HP.out HM.out).mono ?_); rintro e w1 ⟨rfl, hb1⟩; have kx1 := fun o => (bcell hb1 _ o hlt).trans (kx o)))
    go_ret2
    exact ⟨0, rfl, fun _ => rfl, fun h => absurd h HC.out, bon HAL.out hb1⟩
def modelsB (p : GP) (m : List Int) : Bool := allR p.rules.length (fun i => satT (ixR p.rules i) m)
set_option maxHeartbeats 1000000 in
theorem models_any (v vm : Value) (p : GP) (m : List Int) (w : World) (h : ProgIs w v p) (hm : Ints w vm m) :
    Calls Tryz.prog 85 #[v, vm] w fun e w' => e = .returned (.tuple #[.bool (decide (checkE p m = 0) && modelsB p m), .int .i64 (checkE p m)]) ∧ Below w.heap.size w w' := by
  have h0 := h
  obtain ⟨vn, vs, vr, vmn, rfl, hps⟩ := h
  have hal := bal (Below.refl w.heap.size w) (.cells #[.int .i64 p.n, vn, vs, vr, vmn] 27)
  have HP := Lib.hid (h0.below hal)
  have HM := Lib.hid (hm.below hal)
  have HAL := Lib.hid hal
  obtain ⟨am, cm, rfl, -⟩ := hm.form
  clear h0 hm hal hps
  by_cases hv : checkE p m = 0
  · have h1 : (checkE p m == 0) = true := by simp [hv]
    have HC := Lib.hid hv
    clear hv
    have HB : Hid (∀ r, IxP p.rules.length (fun i => !satT (ixR p.rules i) m) r → decide (r < 0) = modelsB p m) := Lib.hid (fun r hr => by
      have := hr.any
      unfold modelsB
      rw [← allR_not, ← this]
      by_cases h0 : 0 ≤ r
      · rw [decide_eq_false (by omega), decide_eq_true h0]; rfl
      · rw [decide_eq_true (by omega), decide_eq_false h0]; rfl)
    go_enter Tryz.func85, Tryz.ntmps85
    go_wp2_with (go_at_call 123; (with_reducible refine (broken_any _ _ p m _ HP.out HM.out).mono ?_); rintro e w1 ⟨r, rfl, hr1, hr2, hb1⟩; have HRR := Lib.hid (hr2 HC.out); clear hr1 hr2)
    go_ret2
    refine ⟨?_, bon HAL.out hb1⟩
    have e := HB.out r HRR.out
    first
      | (show Ending.returned (.tuple #[.bool (modelsB p m), .int .i64 (checkE p m)]) = _; rw [decide_eq_true HC.out, Bool.true_and])
      | (show Ending.returned (.tuple #[.bool (decide (r < 0)), .int .i64 (checkE p m)]) = _; rw [decide_eq_true HC.out, Bool.true_and, e])
  · have h1 : (checkE p m == 0) = false := by simp [hv]
    have HC := Lib.hid hv
    clear hv
    go_enter Tryz.func85, Tryz.ntmps85
    go_wp2_with (go_at_call 123; (with_reducible refine (broken_any _ _ p m _ HP.out HM.out).mono ?_); rintro e w1 ⟨r, rfl, hr1, hr2, hb1⟩; have HRR := Lib.hid (hr1 HC.out); clear hr1 hr2)
    go_ret2
    refine ⟨?_, bon HAL.out hb1⟩
    show Ending.returned (.tuple #[.bool false, .int .i64 (checkE p m)]) = _
    rw [decide_eq_false HC.out]; rfl
theorem bodyw_any (x : Int) (w : World) : Calls Tryz.prog 77 #[.int .i64 x] w fun e w' => e = .returned (.bool (decide (x < 0) || decide (1048576 < x))) ∧ w = w' := by
  by_cases h : x < 0
  · go_enter Tryz.func77, Tryz.ntmps77
    go_wp2
    go_ret
    exact ⟨ret_bool (by rw [decide_eq_true h]; rfl), rfl⟩
  · by_cases h2 : 1048576 < x
    · go_enter Tryz.func77, Tryz.ntmps77
      go_wp2
      go_ret
      exact ⟨ret_bool (by first | (simp; done) | simp [h2]), rfl⟩
    · go_enter Tryz.func77, Tryz.ntmps77
      go_wp2
      go_ret
      exact ⟨ret_bool (by simp; omega), rfl⟩
set_option maxHeartbeats 1000000 in
theorem idx_bw (v : Value) (l : List Int) (w : World) (h : Ints w v l) (g : Nat → Bool) 
    (hg : ∀ w', Below w.heap.size w w' → ∀ j, j < l.length → Calls Tryz.prog 77 #[.int .i64 (ix l j)] w' fun e w'' => e = .returned (.bool (g j)) ∧ Below w'.heap.size w' w'') :
    Calls Tryz.prog 90 #[v, .func (.func 77) #[] #[]] w fun e w' => ∃ r, e = .returned (.int .i64 r) ∧ IxP l.length g r ∧ Below w.heap.size w w' := by
  obtain ⟨a1, c1, rfl, -, hl1, -, hcell⟩ := h.form
  have HG := Lib.hid hg
  clear h hg
  go_enter Tryz.func90, Tryz.ntmps90
  go_wp2
  go_loopw [8] (fun i wx => IxR l.length g w i wx) (fun i _ => l.length - (intOf i).toNat)
  case atStart => exact ⟨0, by omega, rfl, fun j hj => absurd hj (Nat.not_lt_zero _), Below.refl _ _⟩
  case round =>
    obtain ⟨k, hk, rfl, hall, hb⟩ := hrel
    have HA := Lib.hid hall
    clear hall
    by_cases hlt : k < l.length
    · obtain ⟨b, off, rfl, hbl, hc⟩ := hcell (by omega)
      have hk1 := (bcell hb _ _ hbl).trans (hc k hlt)
      clear hc hcell
      cases g1 : g k with
      | true =>
        have HK : Hid (_ = true) := Lib.hid g1
        have HC := Lib.hid (HG.out _ hb k hlt)
        rw [g1] at HC
        clear g1
        go_wp2_with (go_at_call 77; refine (HC.out).mono ?_; rintro e w1 ⟨rfl, hb1⟩)
        go_ret
        exact ⟨_, rfl, .inr ⟨k, hlt, rfl, HK.out, HA.out⟩, bon hb hb1⟩
      | false =>
        have HN := Lib.hid (lt_succ_all HA.out g1)
        have HC := Lib.hid (HG.out _ hb k hlt)
        rw [g1] at HC
        clear g1
        go_wp2_with (go_at_call 77; refine (HC.out).mono ?_; rintro e w1 ⟨rfl, hb1⟩)
        first
          | (go_roundw
             case rel => (exact ⟨k + 1, by omega, by go_num, HN.out, bon hb hb1⟩)
             case measure => (simp [intOf]; omega))
          | (refine ⟨?_, ?_⟩
             · (exact ⟨k + 1, by omega, by go_num, HN.out, bon hb hb1⟩)
             · (simp [intOf]; omega))
    · have HN : Hid (∀ j, j < l.length → g j = false) := Lib.hid (fun j hj => HA.out j (by omega))
      go_wp2
      go_ret
      exact ⟨_, rfl, .inl ⟨rfl, HN.out⟩, hb⟩
set_option maxHeartbeats 1000000 in
theorem ctn_bw (v : Value) (l : List Int) (w : World) (h : Ints w v l) (g : Nat → Bool) 
    (hg : ∀ w', Below w.heap.size w w' → ∀ j, j < l.length → Calls Tryz.prog 77 #[.int .i64 (ix l j)] w' fun e w'' => e = .returned (.bool (g j)) ∧ Below w'.heap.size w' w'') :
    Calls Tryz.prog 76 #[v, .func (.func 77) #[] #[]] w fun e w' => e = .returned (.bool (anyR l.length g)) ∧ Below w.heap.size w w' := by
  have HI := Lib.hid (idx_bw v l w h g  hg)
  obtain ⟨a1, c1, rfl, -⟩ := h.form
  clear h hg
  go_enter Tryz.func76, Tryz.ntmps76
  go_wp2_with (go_at_call 90; refine (HI.out).mono ?_; rintro e w1 ⟨r, rfl, hr, hb1⟩; have HR := Lib.hid hr; clear hr)
  go_ret
  exact ⟨ret_bool HR.out.any, hb1⟩
set_option maxHeartbeats 4000000 in
theorem rBody_any (v vm : Value) (r : GR) (m : List Int) (w : World) (hr : RuleIs w v r) (hm : Ints w vm m) (hml : m.length ≤ 1000000000) {n : Int} (hV : BodyV r n) :
    Calls Tryz.prog 31 #[v, vm] w fun e w' => e = .returned (.bool (bodyT r m)) ∧ Below w.heap.size w w' := by
  obtain ⟨vh, vb, vw, rfl, hsl⟩ := hr
  have hal := bal (Below.refl w.heap.size w) (.cells #[.bool r.choice, vh, .bool r.sum, .int .i64 r.bound, vb, vw] 64)
  have HBX := Lib.hid (Blk.new w [.bool r.choice, vh, .bool r.sum, .int .i64 r.bound, vb, vw] 64)
  obtain ⟨a1, c1, rfl, -, hl1, -, -⟩ := hsl.head.form
  obtain ⟨a2, c2, rfl, -⟩ := hsl.body.form
  obtain ⟨a3, c3, rfl, -⟩ := hsl.wts.form
  obtain ⟨am, cm, rfl, -⟩ := hm.form
  have HR : Hid (RuleIs (w.alloc (.cells #[.bool r.choice, .slice a1 r.head.length c1, .bool r.sum, .int .i64 r.bound, .slice a2 r.body.length c2, .slice a3 r.w.length c3] 64)) (.agg #[.bool r.choice, .slice a1 r.head.length c1, .bool r.sum, .int .i64 r.bound, .slice a2 r.body.length c2, .slice a3 r.w.length c3]) r) := Lib.hid ⟨_, _, _, rfl, hsl.below hal⟩
  have HB := Lib.hid (hsl.body.below hal)
  have HW := Lib.hid (hsl.wts.below hal)
  have HM := Lib.hid (hm.below hal)
  have HML := Lib.hid hml
  have HOK := Lib.hid hV.ok
  have hlen := hV.ok.len
  have hlen' : decide ((8000 : Int) < r.body.length) = false := decide_eq_false (by omega)
  have H0 : Hid (decide ((0 : Int) ∈ r.body) = false) := Lib.hid (decide_eq_false fun h => (ordered_lit hV.ord h).1 rfl)
  have H1 : Hid (decide ((-9223372036854775808 : Int) ∈ r.body) = false) := Lib.hid (decide_eq_false fun h => by have := ordered_lit hV.ord h; have := hV.rng; omega)
  have kx := HBX.out.cell
  have hlt := HBX.out.lt
  have HAL := Lib.hid hal
  have HVW := Lib.hid hV
  clear hsl hm hml hV hal
  cases hs : r.sum with
  | false =>
    rw [hs] at HR HB HW HM HBX HAL kx hlt
    clear hs
    go_enter Tryz.func31, Tryz.ntmps31
    go_upto_region 5 with (go_at_call 45; (with_reducible refine (contains_any _ r.body _ _ HB.out).mono ?_); rintro e w1 ⟨e1, rfl⟩; (first | rw [H0.out] at e1 | rw [H1.out] at e1); subst e1)
    generalize w.alloc (.cells #[.bool r.choice, .slice a1 r.head.length c1, .bool false, .int .i64 r.bound, .slice a2 r.body.length c2, .slice a3 r.w.length c3] 64) = W at *
    have hd : Below W.heap.size W W.drew := (Below.refl _ _).drew
    have kd : ∀ o, W.drew.cell? ⟨w.heap.size, o, none⟩ = _ := kx
    go_region_with (first
      | (go_at_call 79; (with_reducible refine (member_any _ m _ (HM.out.below hd) HML.out).mono ?_); rintro e w3 ⟨mb, rfl, hin, hb3⟩; have HIN := Lib.hid hin; have HB3 := Lib.hid (hd.trans hb3); have kx3 := fun o => (bcell HB3.out _ o hlt).trans (kx o); clear hin hb3)
      | (go_at_call 78; (with_reducible refine (bodyf_any _ r m mb _ (HR.out.below HB3.out) HIN.out HOK.out).mono ?_); rintro e w4 ⟨rfl, hb4⟩; have HB4 := Lib.hid (bon HB3.out hb4); clear hb4))
    all_goals go_wp2
    all_goals go_ret
    all_goals exact ⟨rfl, HAL.out.trans (HB4.out.mono HAL.out.size)⟩
  | true =>
    rw [hs] at HR HB HW HM HBX HAL kx hlt
    have hwl : r.w.length = r.body.length := HOK.out.wlen hs
    have hwl2 : ((r.w.length : Int) != r.body.length) = false := by simp [hwl]
    have HWT : Hid (anyR r.w.length (fun j => decide (ix r.w j < 0) || decide (1048576 < ix r.w j)) = false) := Lib.hid (anyR_false fun j hj => by have := HOK.out.w hs j hj; rw [decide_eq_false (by omega), decide_eq_false (by omega)]; rfl)
    clear hs hwl
    go_enter Tryz.func31, Tryz.ntmps31
    go_upto_region 5 with (first | (go_at_call 45; (with_reducible refine (contains_any _ r.body _ _ HB.out).mono ?_); rintro e w1 ⟨e1, rfl⟩; (first | rw [H0.out] at e1 | rw [H1.out] at e1); subst e1) | (go_at_call 76; (with_reducible refine (ctn_bw _ r.w _ HW.out (fun j => decide (ix r.w j < 0) || decide (1048576 < ix r.w j)) (fun w' _ j _ => (bodyw_any _ w').mono fun e w'' ⟨e1, e2⟩ => ⟨e1, e2 ▸ Below.refl _ _⟩)).mono ?_); rintro e w2 ⟨e2, hb2⟩; rw [HWT.out] at e2; subst e2; have HB2 := Lib.hid hb2; have kx2 := fun o => (bcell hb2 _ o hlt).trans (kx o); have hlt2 := Nat.lt_of_lt_of_le hlt hb2.size; clear hb2))
    have hd : Below w2.heap.size w2 w2.drew := (Below.refl _ _).drew
    have kd : ∀ o, w2.drew.cell? ⟨w.heap.size, o, none⟩ = _ := kx2
    go_region_with (first
      | (go_at_call 79; (with_reducible refine (member_any _ m _ (HM.out.below (HB2.out.trans (hd.mono HB2.out.size))) HML.out).mono ?_); rintro e w3 ⟨mb, rfl, hin, hb3⟩; have HIN := Lib.hid hin; have HB3 := Lib.hid (hd.trans hb3); have kx3 := fun o => (bcell HB3.out _ o hlt2).trans (kx2 o); clear hin hb3)
      | (go_at_call 78; (with_reducible refine (bodyf_any _ r m mb _ (HR.out.below (bon HB2.out HB3.out)) HIN.out HOK.out).mono ?_); rintro e w4 ⟨rfl, hb4⟩; have HB4 := Lib.hid (bon HB2.out (bon HB3.out hb4)); clear hb4))
    all_goals go_wp2
    all_goals go_ret
    all_goals exact ⟨rfl, HAL.out.trans (HB4.out.mono HAL.out.size)⟩
structure SU where
  r : GR
  b : Int
  S : List Int
def SupIs (w : World) (v : Value) (u : SU) : Prop := ∃ vh vb vw vs, v = .agg #[.bool u.r.choice, vh, .bool u.r.sum, .int .i64 u.r.bound, vb, vw, .int .i64 u.b, vs] ∧ RuleSl w u.r vh vb vw ∧ Ints w vs u.S ∧ InI u.b
theorem SupIs.below {w w' : World} {v : Value} {u : SU} (h : SupIs w v u) (hb : Below w.heap.size w w') : SupIs w' v u :=
  let ⟨vh, vb, vw, vs, e, h1, h2, h3⟩ := h; ⟨vh, vb, vw, vs, e, h1.below hb, h2.below hb, h3⟩
def intB (S : List Int) (l : Int) : Bool := decide (0 < l) && decide (l ∈ S)
def wgt (u : SU) (g : Int → Bool) : Nat → Int
  | 0 => 0
  | k + 1 => wgt u g k + if !intB u.S (ix u.r.body k) && g (ix u.r.body k) then ix u.r.w k else 0
structure SUok (u : SU) : Prop where
  lits : ∀ k, k < u.r.body.length → 1 ≤ (ix u.r.body k).natAbs ∧ (ix u.r.body k).natAbs ≤ 1000000
  wts : u.r.sum = true → u.r.w.length = u.r.body.length ∧ (∀ k, k < u.r.w.length → 1 ≤ ix u.r.w k) ∧ ∀ k, k ≤ u.r.w.length → 0 ≤ sumTo u.r.w k ∧ sumTo u.r.w k ≤ 1048576
  bound : 0 ≤ u.r.bound ∧ u.r.bound ≤ 1048576
  head : ∀ k, k < u.r.head.length → 1 ≤ ix u.r.head k ∧ ix u.r.head k ≤ 1000000
  b : 1 ≤ u.b ∧ u.b ≤ 1000000
  hlen : u.r.head.length ≤ 1000000
theorem blk_setCells {g : Nat} {t : TypeId} : ∀ (vs : List Value) (o : Nat) (D : List Value) (w : World), Blk w g D t → ∃ D', Blk (w.setCells g o vs) g D' t ∧ D'.length = D.length ∧ ∀ k, k < o → D'[k]? = D[k]?
  | [], _, D, _, h => ⟨D, h, rfl, fun _ _ => rfl⟩
  | v :: vs, o, D, w, h => by
    obtain ⟨D', h1, h2, h3⟩ := blk_setCells vs (o + 1) (D.set o v) (w.setCell ⟨g, o, none⟩ v) (h.set o v)
    refine ⟨D', h1, by simpa using h2, fun k hk => ?_⟩
    rw [h3 k (by omega), List.getElem?_set_ne (by omega)]
theorem lim_setCells {n g : Nat} {S : List Nat} {w0 : World} (hg : g ∈ S) : ∀ (vs : List Value) (o : Nat) (w : World), Lim n S w0 w → Lim n S w0 (w.setCells g o vs)
  | [], _, _, h => h
  | v :: vs, o, _, h => lim_setCells hg vs (o + 1) _ (h.trans (.setCell v (.inl hg)))
def keepF (q : Int → Bool) (l : List Int) (j : Nat) : List Int := (l.take j).filter fun x => !q x
theorem keepF_succ {q : Int → Bool} {l : List Int} {j : Nat} (hj : j < l.length) : keepF q l (j + 1) = if q (ix l j) then keepF q l j else keepF q l j ++ [ix l j] := by
  unfold keepF
  rw [take_ix l j hj, List.filter_append]
  cases h : q (ix l j) <;> simp [h]
theorem keepF_none {q : Int → Bool} {l : List Int} : ∀ j, j ≤ l.length → (∀ k, k < j → q (ix l k) = false) → keepF q l j = l.take j
  | 0, _, _ => by simp [keepF]
  | j + 1, hj, h => by
    rw [keepF_succ (by omega), h j (by omega), keepF_none j (by omega) (fun k hk => h k (by omega)), take_ix l j (by omega)]
    rfl
theorem keepF_le (q : Int → Bool) (l : List Int) (j : Nat) : (keepF q l j).length ≤ j := by
  have h := List.length_filter_le (fun x => !q x) (l.take j)
  have h2 := List.length_take_le j l
  unfold keepF
  omega
theorem fits_of {l : List Int} (h : ∀ x ∈ l, InI x) : Fits l := fun i => by
  by_cases hi : i < l.length
  · exact h _ (ix_mem hi)
  · have : ix l i = 0 := by unfold ix; rw [List.getD_eq_getElem?_getD, List.getElem?_eq_none (by omega)]; rfl
    rw [this]; omega
theorem ix_push (l : List Int) (x : Int) : ix (l ++ [x]) l.length = x := by simp [ix]
def DelSt (w : World) (g : Nat) (q : Int → Bool) (l : List Int) (N j : Nat) (wx : World) : Prop :=
  ∃ D : List Value, D.length = N ∧ Blk wx g D 3 ∧ (∀ k, k < (keepF q l j).length → D[k]? = some (.int .i64 (ix (keepF q l j) k))) ∧ (∀ k, j ≤ k → k < l.length → D[k]? = some (.int .i64 (ix l k))) ∧ Lim w.heap.size [g] w wx
def DelRel (w : World) (g : Nat) (q : Int → Bool) (l : List Int) (N : Nat) (i j : Value) (wx : World) : Prop :=
  ∃ jj : Nat, jj ≤ l.length ∧ j = .int .i64 jj ∧ i = .int .i64 (keepF q l jj).length ∧ (keepF q l jj).length < jj ∧ DelSt w g q l N jj wx
theorem DelSt.keep {w wx : World} {g N j : Nat} {q : Int → Bool} {l : List Int} (h : DelSt w g q l N j wx) (hj : j < l.length) (hN : l.length ≤ N) (hq : q (ix l j) = false) :
    DelSt w g q l N (j + 1) (wx.setCell ⟨g, (keepF q l j).length, none⟩ (.int .i64 (ix l j))) := by
  obtain ⟨D, h1, h2, h3, h4, h5⟩ := h
  have hle := keepF_le q l j
  have e : keepF q l (j + 1) = keepF q l j ++ [ix l j] := by rw [keepF_succ hj, hq]; rfl
  refine ⟨D.set (keepF q l j).length (.int .i64 (ix l j)), by simpa using h1, h2.set _ _, fun k hk => ?_, fun k hk hk2 => ?_, h5.trans (.setCell _ (.inl (by simp)))⟩
  · rw [e] at hk ⊢
    simp only [List.length_append, List.length_singleton] at hk
    by_cases hke : k = (keepF q l j).length
    · subst hke
      rw [List.getElem?_set_self (by omega), ix_push]
    · rw [List.getElem?_set_ne (by omega), h3 k (by omega)]
      congr 2
      simp [ix, List.getElem?_append_left (show k < (keepF q l j).length by omega)]
  · rw [List.getElem?_set_ne (by omega)]
    exact h4 k (by omega) hk2
theorem DelSt.drop {w wx : World} {g N j : Nat} {q : Int → Bool} {l : List Int} (h : DelSt w g q l N j wx) (hj : j < l.length) (hq : q (ix l j) = true) : DelSt w g q l N (j + 1) wx := by
  obtain ⟨D, h1, h2, h3, h4, h5⟩ := h
  have e : keepF q l (j + 1) = keepF q l j := by rw [keepF_succ hj, hq]; rfl
  exact ⟨D, h1, h2, by rw [e]; exact h3, fun k hk => h4 k (by omega), h5⟩
theorem DelSt.on {w wx w' : World} {g N j : Nat} {q : Int → Bool} {l : List Int} (h : DelSt w g q l N j wx) (hb : Below wx.heap.size wx w') : DelSt w g q l N j w' := by
  obtain ⟨D, h1, h2, h3, h4, h5⟩ := h
  exact ⟨D, h1, h2.below hb, h3, h4, h5.trans (.of_below hb h5.size)⟩
def oth (u : SU) : List Int := if u.r.choice then [] else keepF (fun x => decide (x ∈ u.S)) u.r.head u.r.head.length
def impB (u : SU) : Bool := if u.r.sum then decide (wgt u (fun _ => true) u.r.body.length < u.r.bound) else anyR u.r.body.length (fun j => intB u.S (ix u.r.body j))
attribute [local go_sem] Oper.semAt_some
abbrev SupV (w : World) := { x : Value × SU // SupIs w x.1 x.2 ∧ SUok x.2 }
structure SupSt (wi w : World) (p : GP) (S : List Int) (pb sb : Nat) (vn vs vr vm vset : Value) : Prop where
  below : Below wi.heap.size wi w
  pb : Blk w pb [.int .i64 p.n, vn, vs, vr, vm] 27
  sb : Blk w sb [vset] 23
theorem SupSt.on {wi w w' : World} {p : GP} {S : List Int} {pb sb : Nat} {vn vs vr vm vset : Value} (h : SupSt wi w p S pb sb vn vs vr vm vset) (hb : Below w.heap.size w w') : SupSt wi w' p S pb sb vn vs vr vm vset :=
  ⟨h.below.trans (hb.mono h.below.size), h.pb.below hb, h.sb.below hb⟩
theorem SupSt.lim {wi w0 w w' : World} {p : GP} {S : List Int} {pb sb rb : Nat} {vn vs vr vm vset : Value} (h : SupSt wi w p S pb sb vn vs vr vm vset) (hl : Lim w0.heap.size [rb] w w') (hN : wi.heap.size ≤ w0.heap.size) (hrb : wi.heap.size ≤ rb) (hp : pb < w0.heap.size ∧ pb ≠ rb) (hs : sb < w0.heap.size ∧ sb ≠ rb) : SupSt wi w' p S pb sb vn vs vr vm vset :=
  ⟨h.below.trans ((hl.mono hN (fun i hi _ => hi)).below (fun i hi => by simp only [List.mem_singleton] at hi; omega)), h.pb.same (hl.block _ hp.1 (by simpa using hp.2)), h.sb.same (hl.block _ hs.1 (by simpa using hs.2))⟩
theorem grown_of_below {w w' : World} (h : Below w.heap.size w w') : w.grownBy w' none := ⟨h.os, h.tape, h.output, h.size, fun k hk _ => h.block k hk⟩
theorem AbidesFrom.below {β : Type} {B : Nat} {J : β → World → Prop} (h : AbidesFrom B J) {s : β} {w w' : World} (hs : J s w) (hb : Below w.heap.size w w') : J s w' :=
  h s w w' none hs (grown_of_below hb) (fun r e => by cases e)
end Go.Proofs.YtgakoainjgjimaaGreatDoor
namespace Go.Proofs.YtgakoainjgjimaaGreatDoor
open Go.RowKit Go.Shelf
attribute [local go_sem] Oper.semAt_some
theorem SupV.form {w : World} (x : SupV w) : ∃ vh vb vw vs, x.1.1 = .agg #[.bool x.1.2.r.choice, vh, .bool x.1.2.r.sum, .int .i64 x.1.2.r.bound, vb, vw, .int .i64 x.1.2.b, vs] ∧ (∃ a n c, vh = .slice a n c) ∧ (∃ a n c, vb = .slice a n c) ∧ (∃ a n c, vw = .slice a n c) ∧ ∃ a n c, vs = .slice a n c := by
  obtain ⟨vh, vb, vw, vs, e, h1, h2, h3⟩ := x.2.1
  obtain ⟨⟨_, _, e1, -⟩, -⟩ := h1.head
  obtain ⟨⟨_, _, e2, -⟩, -⟩ := h1.body
  obtain ⟨⟨_, _, e3, -⟩, -⟩ := h1.wts
  obtain ⟨⟨_, _, e4, -⟩, -⟩ := h2
  exact ⟨_, _, _, _, e, ⟨_, _, _, e1⟩, ⟨_, _, _, e2⟩, ⟨_, _, _, e3⟩, ⟨_, _, _, e4⟩⟩
end Go.Proofs.YtgakoainjgjimaaGreatDoor
namespace Go.Proofs.YtgakoainjgjimaaGreatDoor
open Go.RowKit
theorem ruleE_at {p : GP} (h : validE p = 0) {i : Nat} (hi : i < p.rules.length) : ruleE (ixR p.rules i) p.n = 0 := by
  unfold validE at h
  split at h
  · omega
  split at h
  · omega
  split at h
  · rename_i h3; exact absurd h h3
  rename_i h3
  exact rulesFrom_zero p.rules.length 0 (Decidable.not_not.1 h3) i (by omega) (by omega)
end Go.Proofs.YtgakoainjgjimaaGreatDoor
