/- My texts Aw1, CpA, CpB, merged. -/
import Derived.Test.YtjodocheiejkeaaGreatDoorM08
import Derived.Test.YtjodocheiejkeaaGreatDoorM32
import Derived.Test.YtjodocheiejkeaaGreatDoorM04
import Derived.Test.YtjodocheiejkeaaGreatDoorM03
import Derived.Test.YtjodocheiejkeaaGreatDoorM02
import Derived.Test.YtjodocheiejkeaaGreatDoorM00
import Derived.Test.YtjodocheiejkeaaGreatDoorProg
import Derived.WalkKit
import Derived.Lib.Hide
import Derived.Deep.QuietTactic
import Derived.BigQuiet
import Derived.WalkSpells
import Derived.Lib.SliceRun
import Derived.MapKept
import Derived.Maps.OwnSet
import Derived.Maps.OwnOps
import Derived.Test.YtjodocheiejkeaaGreatDoorM01
import Derived.Deep.AppendLies
import Derived.Lib.Bytealg
import Derived.Test.YtjodocheiejkeaaGreatDoorM05
import Derived.Test.YtjodocheiejkeaaGreatDoorM28
import Derived.Deep.DeepCutAuto
import Derived.Test.YtjodocheiejkeaaGreatDoorM07
import Derived.Test.YtjodocheiejkeaaGreatDoorM29
import Derived.Test.YtjodocheiejkeaaGreatDoorM06
import Derived.Laws.EntriesVeiled
import Derived.Deep.RegionWith
import Derived.RangeFuncNested
import Derived.RangeFuncBound
import Derived.RangeFuncCalls
import Derived.RangeFuncLeaves
import Derived.OwnWalkIn
import Derived.TacticsInMore
import Derived.LoopNIn
import Derived.LoopIn
import Derived.Stop.RegionWithIn
import Derived.Shelf.Abstract
import Derived.Deep.OwnRows
import Derived.Shelf.Sort.Plain
import Derived.Shelf.Slices.CompactI
import Derived.Shelf.Slices.In.SortNone
import Derived.Shelf.Strconv.Itoa3
import Derived.Shelf.Strings.BuilderK
import Derived.Sort.QuietThIn
import Derived.Test.YtjodocheiejkeaaGreatDoorM11
import Derived.Test.YtjodocheiejkeaaGreatDoorM10
import Derived.Test.YtjodocheiejkeaaGreatDoorM09
import Derived.Maps.RangeWalk
import Derived.Lib.SlicesCompact
import Derived.Sort.OwnSortedInts
import Derived.RangeFuncBox
import Derived.Maps.OwnIn
import Derived.Lib.RowBridge
import Derived.Deep.AppendSrc

namespace Go.Proofs.YtjodocheiejkeaaGreatDoor
open Go.RowKit
theorem toList_inj {a b : ByteArray} (h : a.toList = b.toList) : a = b := by
  have h1 : a.data.toList = b.data.toList := by rw [← Lib.toList_data, ← Lib.toList_data]; exact h
  cases a; cases b; congr 1; exact Array.toList_inj.1 h1
theorem str_ne {a b : ByteArray} (h : ¬ a = b) : (a.toList == b.toList) = false := by
  rw [beq_eq_false_iff_ne]
  exact fun e => h (toList_inj e)
def StrsRel (l1 l2 : List ByteArray) (w : World) (i : Value) (wx : World) : Prop := ∃ k : Nat, k ≤ l1.length ∧ i = .int .i64 k ∧ (∀ j, j < k → ixS l1 j = ixS l2 j) ∧ Below w.heap.size w wx
theorem ixS_get {l : List ByteArray} {j : Nat} (hj : j < l.length) : ixS l j = l[j] := by simp [ixS, List.getD_eq_getElem?_getD, List.getElem?_eq_getElem hj]
theorem eq_of_ixS {l1 l2 : List ByteArray} (hl : l1.length = l2.length) (h : ∀ j, j < l1.length → ixS l1 j = ixS l2 j) : l1 = l2 := by
  apply List.ext_getElem hl
  intro i h1 h2
  have := h i h1
  rwa [ixS_get h1, ixS_get h2] at this
set_option maxHeartbeats 1000000 in
theorem strings_any (v1 v2 : Value) (l1 l2 : List ByteArray) (w : World) (h1 : Strs w v1 l1) (h2 : Strs w v2 l2) :
    Calls Tryz.prog 25 #[v1, v2] w fun e w' => e = .returned (.bool (decide (l1 = l2))) ∧ Below w.heap.size w w' := by
  obtain ⟨a1, c1, rfl, -, hl1, -, -, hcell1⟩ := h1.form
  obtain ⟨a2, c2, rfl, -, hl2, -, -, hcell2⟩ := h2.form
  have HC1 := Lib.hid hcell1
  have HC2 := Lib.hid hcell2
  clear h1 h2 hcell1 hcell2
  go_enter Tryz.func25, Tryz.ntmps25
  by_cases hlen : l1.length = l2.length
  · have hne : ((l1.length : Int) != (l2.length : Int)) = false := by simp [hlen]
    have hle := Lib.hid hlen
    clear hlen
    go_wp2
    go_loopw [13] (fun i wx => StrsRel l1 l2 w i wx) (fun i _ => l1.length - (intOf i).toNat)
    case atStart => exact ⟨0, by omega, rfl, fun j hj => absurd hj (Nat.not_lt_zero _), Below.refl _ _⟩
    case round =>
      obtain ⟨k, hk, rfl, hall, hb⟩ := hrel
      have HA := Lib.hid hall
      clear hall
      by_cases hlt : k < l1.length
      · obtain ⟨b1, o1, rfl, hb1, hc1⟩ := HC1.out (by omega)
        obtain ⟨b2, o2, rfl, hb2, hc2⟩ := HC2.out (by have := hle.out; omega)
        have hlt2 : k < l2.length := by have := hle.out; omega
        have hlr1 : b1 < wr.heap.size := Nat.lt_of_lt_of_le hb1 hb.size
        have hlr2 : b2 < wr.heap.size := Nat.lt_of_lt_of_le hb2 hb.size
        have q1 : ∀ e : Ext wr, e.world.cell? ⟨b1, o1 + k, none⟩ = some (.string (ixS l1 k)) := fun e => (bcell e.below _ _ hlr1).trans ((bcell hb _ _ hb1).trans (hc1 k hlt))
        have q2 : ∀ e : Ext wr, e.world.cell? ⟨b2, o2 + k, none⟩ = some (.string (ixS l2 k)) := fun e => (bcell e.below _ _ hlr2).trans ((bcell hb _ _ hb2).trans (hc2 k hlt2))
        by_cases he : ixS l1 k = ixS l2 k
        · have HN := Lib.hid (lt_succ_all HA.out he)
          clear hc1 hc2
          go_wp2
          refine wp_region_ext (by kernel_rfl) (by kernel_rfl) ?_
          repeat (go_big_quiet_step (fail))
          refine wpQuiet_nil ?_
          intro w9 hw'
          obtain ⟨e9, he9⟩ := hw'
          have hb9 := e9.below
          rw [← he9] at hb9
          clear he9 e9
          try dsimp only
          go_wp2
          first
            | (go_roundw
               case rel => (exact ⟨k + 1, by omega, by go_num, HN.out, bon hb hb9⟩)
               case measure => (simp [intOf]; omega))
            | (refine ⟨?_, ?_⟩
               · (exact ⟨k + 1, by omega, by go_num, HN.out, bon hb hb9⟩)
               · (simp [intOf]; omega))
        · have HF : Hid (decide (l1 = l2) = false) := Lib.hid (decide_eq_false fun e => he (by rw [e]))
          have hse := str_ne he
          clear hc1 hc2 he
          go_wp2
          refine wp_region_ext (by kernel_rfl) (by kernel_rfl) ?_
          repeat (go_big_quiet_step (fail))
          refine wpQuiet_nil ?_
          intro w9 hw'
          obtain ⟨e9, he9⟩ := hw'
          have hb9 := e9.below
          rw [← he9] at hb9
          clear he9 e9
          try dsimp only
          go_wp2
          go_ret
          exact ⟨ret_bool HF.out.symm, bon hb hb9⟩
      · have HF : Hid (decide (l1 = l2) = true) := Lib.hid (decide_eq_true (eq_of_ixS hle.out fun j hj => HA.out j (by omega)))
        go_wp2
        go_ret
        exact ⟨ret_bool HF.out.symm, hb⟩
  · have hne : ((l1.length : Int) != (l2.length : Int)) = true := by simp; omega
    have HF : Hid (decide (l1 = l2) = false) := Lib.hid (decide_eq_false fun e => hlen (by rw [e]))
    clear hlen
    go_wp2
    go_ret
    exact ⟨ret_bool HF.out.symm, Below.refl _ _⟩
set_option maxHeartbeats 1000000 in
theorem bits_any (v1 v2 : Value) (l1 l2 : List Int) (w : World) (h1 : Bytes8 w v1 l1) (h2 : Bytes8 w v2 l2) :
    Calls Tryz.prog 27 #[v1, v2] w fun e w' => e = .returned (.bool (decide (l1 = l2))) ∧ Below w.heap.size w w' := by
  obtain ⟨⟨a1, c1, rfl, -, -, hl1, hcell1⟩, hf1⟩ := h1
  obtain ⟨⟨a2, c2, rfl, -, -, hl2, hcell2⟩, hf2⟩ := h2
  have HC1 := Lib.hid hcell1
  have HC2 := Lib.hid hcell2
  clear hcell1 hcell2
  go_enter Tryz.func27, Tryz.ntmps27
  by_cases hlen : l1.length = l2.length
  · have hne : ((l1.length : Int) != (l2.length : Int)) = false := by simp [hlen]
    have hle := Lib.hid hlen
    clear hlen
    go_wp2
    go_loopw [13] (fun i wx => IntsRel l1 l2 w i wx) (fun i _ => l1.length - (intOf i).toNat)
    case atStart => exact ⟨0, by omega, rfl, fun j hj => absurd hj (Nat.not_lt_zero _), Below.refl _ _⟩
    case round =>
      obtain ⟨k, hk, rfl, hall, hb⟩ := hrel
      have HA := Lib.hid hall
      clear hall
      by_cases hlt : k < l1.length
      · obtain ⟨b1, o1, rfl, hb1, hc1⟩ := HC1.out (by omega)
        obtain ⟨b2, o2, rfl, hb2, hc2⟩ := HC2.out (by have := hle.out; omega)
        have hlt2 : k < l2.length := by have := hle.out; omega
        have hlr1 : b1 < wr.heap.size := Nat.lt_of_lt_of_le hb1 hb.size
        have hlr2 : b2 < wr.heap.size := Nat.lt_of_lt_of_le hb2 hb.size
        have q1 : ∀ e : Ext wr, e.world.cell? ⟨b1, o1 + k, none⟩ = some (.int .i8 (ix l1 k)) := fun e => (bcell e.below _ _ hlr1).trans ((bcell hb _ _ hb1).trans (hc1 k hlt))
        have q2 : ∀ e : Ext wr, e.world.cell? ⟨b2, o2 + k, none⟩ = some (.int .i8 (ix l2 k)) := fun e => (bcell e.below _ _ hlr2).trans ((bcell hb _ _ hb2).trans (hc2 k hlt2))
        by_cases he : ix l1 k = ix l2 k
        · have hq : (ix l1 k != ix l2 k) = false := by simp [he]
          have HN := Lib.hid (lt_succ_all HA.out he)
          clear he hc1 hc2
          go_wp2
          refine wp_region_ext (by kernel_rfl) (by kernel_rfl) ?_
          repeat (go_big_quiet_step (fail))
          refine wpQuiet_nil ?_
          intro w9 hw'
          obtain ⟨e9, he9⟩ := hw'
          have hb9 := e9.below
          rw [← he9] at hb9
          clear he9 e9
          try dsimp only
          go_wp2
          first
            | (go_roundw
               case rel => (exact ⟨k + 1, by omega, by go_num, HN.out, bon hb hb9⟩)
               case measure => (simp [intOf]; omega))
            | (refine ⟨?_, ?_⟩
               · (exact ⟨k + 1, by omega, by go_num, HN.out, bon hb hb9⟩)
               · (simp [intOf]; omega))
        · have hq : (ix l1 k != ix l2 k) = true := by simp [he]
          have HF : Hid (decide (l1 = l2) = false) := Lib.hid (decide_eq_false fun e => he (by rw [e]))
          clear he hc1 hc2
          go_wp2
          refine wp_region_ext (by kernel_rfl) (by kernel_rfl) ?_
          repeat (go_big_quiet_step (fail))
          refine wpQuiet_nil ?_
          intro w9 hw'
          obtain ⟨e9, he9⟩ := hw'
          have hb9 := e9.below
          rw [← he9] at hb9
          clear he9 e9
          try dsimp only
          go_wp2
          go_ret
          exact ⟨ret_bool HF.out.symm, bon hb hb9⟩
      · have HF : Hid (decide (l1 = l2) = true) := Lib.hid (decide_eq_true (eq_of_ix hle.out fun j hj => HA.out j (by omega)))
        go_wp2
        go_ret
        exact ⟨ret_bool HF.out.symm, hb⟩
  · have hne : ((l1.length : Int) != (l2.length : Int)) = true := by simp; omega
    have HF : Hid (decide (l1 = l2) = false) := Lib.hid (decide_eq_false fun e => hlen (by rw [e]))
    clear hlen
    go_wp2
    go_ret
    exact ⟨ret_bool HF.out.symm, Below.refl _ _⟩
set_option maxHeartbeats 1000000 in
set_option maxRecDepth 100000 in
theorem two_any (w : World) :
    Calls Tryz.prog 23 #[] w fun e w' => ∃ v, e = .returned v ∧ (∃ an nn cn ar nr cr, v = .agg #[.int .i64 2, .slice an nn cn, .slice none 0 0, .slice ar nr cr, .slice none 0 0]) ∧ ProgIs w' v twoP ∧ Below w.heap.size w w' := by
  go_enter Tryz.func23, Tryz.ntmps23
  go_wp2
  generalize hW : World.alloc _ (.cells #[.bool false, .slice (some ⟨w.heap.size + 1 + 1, 0, none⟩) 1 1, .bool false, .int .i64 0, .slice (some ⟨w.heap.size + 1 + 1 + 1, 0, none⟩) 1 1, .slice none 0 0, .bool false, .slice (some ⟨w.heap.size + 1 + 1 + 1 + 1, 0, none⟩) 1 1, .bool false, .int .i64 0, .slice (some ⟨w.heap.size + 1 + 1 + 1 + 1 + 1, 0, none⟩) 1 1, .slice none 0 0] 55) = W1
  have b0 : Blk W1 w.heap.size [.int .i64 2, .slice (some ⟨w.heap.size + 1, 0, none⟩) 2 2, .slice none 0 0, .slice (some ⟨w.heap.size + 1 + 1 + 1 + 1 + 1 + 1, 0, none⟩) 2 2, .slice none 0 0] 27 := by rw [← hW]; (repeat first | (refine Blk.newAt _ _ _ ?_; first | rfl | (simp only [World.size_alloc]; done) | (simp only [World.size_alloc]; omega)) | refine Blk.alloc ?_ _)
  have b1 : Blk W1 (w.heap.size + 1) ([⟨#[97]⟩, ⟨#[98]⟩].map Value.string) 9 := by rw [← hW]; (repeat first | (refine Blk.newAt _ _ _ ?_; first | rfl | (simp only [World.size_alloc]; done) | (simp only [World.size_alloc]; omega)) | refine Blk.alloc ?_ _)
  have b2 : Blk W1 (w.heap.size + 1 + 1) [.int .i64 1] 3 := by rw [← hW]; (repeat first | (refine Blk.newAt _ _ _ ?_; first | rfl | (simp only [World.size_alloc]; done) | (simp only [World.size_alloc]; omega)) | refine Blk.alloc ?_ _)
  have b3 : Blk W1 (w.heap.size + 1 + 1 + 1) [.int .i64 (-2)] 3 := by rw [← hW]; (repeat first | (refine Blk.newAt _ _ _ ?_; first | rfl | (simp only [World.size_alloc]; done) | (simp only [World.size_alloc]; omega)) | refine Blk.alloc ?_ _)
  have b4 : Blk W1 (w.heap.size + 1 + 1 + 1 + 1) [.int .i64 2] 3 := by rw [← hW]; (repeat first | (refine Blk.newAt _ _ _ ?_; first | rfl | (simp only [World.size_alloc]; done) | (simp only [World.size_alloc]; omega)) | refine Blk.alloc ?_ _)
  have b5 : Blk W1 (w.heap.size + 1 + 1 + 1 + 1 + 1) [.int .i64 (-1)] 3 := by rw [← hW]; (repeat first | (refine Blk.newAt _ _ _ ?_; first | rfl | (simp only [World.size_alloc]; done) | (simp only [World.size_alloc]; omega)) | refine Blk.alloc ?_ _)
  have b6 : Blk W1 (w.heap.size + 1 + 1 + 1 + 1 + 1 + 1) ([((⟨false, [1], false, 0, [-2], []⟩ : GR), Value.slice (some ⟨w.heap.size + 1 + 1, 0, none⟩) 1 1, Value.slice (some ⟨w.heap.size + 1 + 1 + 1, 0, none⟩) 1 1, Value.slice none 0 0), ((⟨false, [2], false, 0, [-1], []⟩ : GR), Value.slice (some ⟨w.heap.size + 1 + 1 + 1 + 1, 0, none⟩) 1 1, Value.slice (some ⟨w.heap.size + 1 + 1 + 1 + 1 + 1, 0, none⟩) 1 1, Value.slice none 0 0)].flatMap cells6) 55 := by rw [← hW]; (repeat first | (refine Blk.newAt _ _ _ ?_; first | rfl | (simp only [World.size_alloc]; done) | (simp only [World.size_alloc]; omega)) | refine Blk.alloc ?_ _)
  have hb : Below w.heap.size w W1 := by rw [← hW]; exact bal (bal (bal (bal (bal (bal (bal (Below.refl _ _) _) _) _) _) _) _) _
  have kx := b0.cell
  clear hW
  refine bodyPost_ret (v := .agg #[.int .i64 2, .slice (some ⟨w.heap.size + 1, 0, none⟩) 2 2, .slice none 0 0, .slice (some ⟨w.heap.size + 1 + 1 + 1 + 1 + 1 + 1, 0, none⟩) 2 2, .slice none 0 0]) (by simp [results, Tryz.f23, go_sem, kx]) rfl ⟨_, rfl, ⟨_, _, _, _, _, _, rfl⟩, ⟨_, _, _, _, rfl, inI_small (by decide), b1.strs (by simp; decide) (by simp), nil_ints _, b6.rules (fun q hq => ?_) (by simp), nil_mins _⟩, hb⟩
  simp only [List.mem_cons, List.not_mem_nil, or_false] at hq
  rcases hq with rfl | rfl
  · exact ⟨b2.ints1 (inI_small (by decide)), b3.ints1 (inI_small (by decide)), nil_ints _, (by unfold InI; decide : InI 0)⟩
  · exact ⟨b4.ints1 (inI_small (by decide)), b5.ints1 (inI_small (by decide)), nil_ints _, (by unfold InI; decide : InI 0)⟩
def smallB (p : GP) : Bool := fewB p && decide (p.n ≤ 6) && decide (p.rules.length ≤ 6) && decide (validE p = 0)
set_option maxHeartbeats 4000000 in
set_option maxRecDepth 100000 in
theorem small_any (v : Value) (p : GP) (w : World) (h : ProgIs w v p) :
    Calls Tryz.prog 6 #[v] w fun e w' => e = .returned (.bool (smallB p)) ∧ Below w.heap.size w w' := by
  have h0 := h
  obtain ⟨vn, vs, vr, vm, rfl, hps⟩ := h
  have hpn := hps.n
  obtain ⟨a1, c1, rfl, -, hl1, -, -⟩ := hps.rules.form
  have hal := bal (Below.refl w.heap.size w) (.cells #[.int .i64 p.n, vn, vs, .slice a1 p.rules.length c1, vm] 27)
  have HB := Lib.hid (Blk.new w [.int .i64 p.n, vn, vs, .slice a1 p.rules.length c1, vm] 27)
  have HP := Lib.hid (h0.below hal)
  unfold InI at hpn
  clear h0 hps
  go_enter Tryz.func6, Tryz.ntmps6
  go_upto_region 1 with fail
  have kx := HB.out.cell
  have hz := HB.out.lt
  have HAL := Lib.hid hal
  clear hal
  generalize w.alloc (.cells #[.int .i64 p.n, vn, vs, .slice a1 p.rules.length c1, vm] 27) = W at *
  have HS : Hid (smallB p = (fewB p && decide (p.n ≤ 6) && decide (p.rules.length ≤ 6) && decide (validE p = 0))) := Lib.hid rfl
  cases hf : fewB p with
  | false =>
    have HFE := Lib.hid hf
    rw [hf] at HS
    have HE := HS.out
    simp only [Bool.false_and] at HE
    have HE := Lib.hid HE
    clear hf
    go_wp2_with (first | (go_at_call 21; (with_reducible refine (few_any _ p _ HP.out).mono ?_); rintro e w1 ⟨h1, hb1⟩; rw [HFE.out] at h1; subst h1; have HB1 := Lib.hid (bon HAL.out hb1); have HP1 := Lib.hid (HP.out.below hb1); have kx1 := (HB.out.below hb1).cell; clear hb1) | (go_at_call 22; (with_reducible refine (valid_any _ p w1 HP1.out).mono ?_); rintro e w2 ⟨rfl, hb2⟩; have HB2 := Lib.hid (bon HB1.out hb2); clear hb2))
    go_ret
    first | exact ⟨rfl, HB2.out⟩ | exact ⟨rfl, HB1.out⟩ | exact ⟨ret_bool HE.out.symm, HB2.out⟩ | exact ⟨ret_bool HE.out.symm, HB1.out⟩
  | true =>
    have HFE := Lib.hid hf
    rw [hf] at HS
    clear hf
    by_cases h6 : p.n ≤ 6
    · by_cases h7 : p.rules.length ≤ 6
      · by_cases hv : validE p = 0
        · have HE := HS.out
          simp only [h6, h7, hv, decide_true, Bool.true_and] at HE
          have HE := Lib.hid HE
          have hve : (validE p == 0) = true := by simp [hv]
          clear hv
          go_wp2_with (first | (go_at_call 21; (with_reducible refine (few_any _ p _ HP.out).mono ?_); rintro e w1 ⟨h1, hb1⟩; rw [HFE.out] at h1; subst h1; have HB1 := Lib.hid (bon HAL.out hb1); have HP1 := Lib.hid (HP.out.below hb1); have kx1 := (HB.out.below hb1).cell; clear hb1) | (go_at_call 22; (with_reducible refine (valid_any _ p w1 HP1.out).mono ?_); rintro e w2 ⟨rfl, hb2⟩; have HB2 := Lib.hid (bon HB1.out hb2); clear hb2))
          go_ret
          first | exact ⟨rfl, HB2.out⟩ | exact ⟨rfl, HB1.out⟩ | exact ⟨ret_bool HE.out.symm, HB2.out⟩ | exact ⟨ret_bool HE.out.symm, HB1.out⟩
        · have HE := HS.out
          simp only [h6, h7, hv, decide_true, decide_false, Bool.and_false] at HE
          have HE := Lib.hid HE
          have hve : (validE p == 0) = false := by simp [hv]
          clear hv
          go_wp2_with (first | (go_at_call 21; (with_reducible refine (few_any _ p _ HP.out).mono ?_); rintro e w1 ⟨h1, hb1⟩; rw [HFE.out] at h1; subst h1; have HB1 := Lib.hid (bon HAL.out hb1); have HP1 := Lib.hid (HP.out.below hb1); have kx1 := (HB.out.below hb1).cell; clear hb1) | (go_at_call 22; (with_reducible refine (valid_any _ p w1 HP1.out).mono ?_); rintro e w2 ⟨rfl, hb2⟩; have HB2 := Lib.hid (bon HB1.out hb2); clear hb2))
          go_ret
          first | exact ⟨rfl, HB2.out⟩ | exact ⟨rfl, HB1.out⟩ | exact ⟨ret_bool HE.out.symm, HB2.out⟩ | exact ⟨ret_bool HE.out.symm, HB1.out⟩
      · have HE := HS.out
        simp only [h6, h7, decide_true, decide_false, Bool.and_false, Bool.false_and] at HE
        have HE := Lib.hid HE
        go_wp2_with (first | (go_at_call 21; (with_reducible refine (few_any _ p _ HP.out).mono ?_); rintro e w1 ⟨h1, hb1⟩; rw [HFE.out] at h1; subst h1; have HB1 := Lib.hid (bon HAL.out hb1); have HP1 := Lib.hid (HP.out.below hb1); have kx1 := (HB.out.below hb1).cell; clear hb1) | (go_at_call 22; (with_reducible refine (valid_any _ p w1 HP1.out).mono ?_); rintro e w2 ⟨rfl, hb2⟩; have HB2 := Lib.hid (bon HB1.out hb2); clear hb2))
        go_ret
        first | exact ⟨rfl, HB2.out⟩ | exact ⟨rfl, HB1.out⟩ | exact ⟨ret_bool HE.out.symm, HB2.out⟩ | exact ⟨ret_bool HE.out.symm, HB1.out⟩
    · have HE := HS.out
      simp only [h6, decide_false, Bool.and_false, Bool.false_and] at HE
      have HE := Lib.hid HE
      go_wp2_with (first | (go_at_call 21; (with_reducible refine (few_any _ p _ HP.out).mono ?_); rintro e w1 ⟨h1, hb1⟩; rw [HFE.out] at h1; subst h1; have HB1 := Lib.hid (bon HAL.out hb1); have HP1 := Lib.hid (HP.out.below hb1); have kx1 := (HB.out.below hb1).cell; clear hb1) | (go_at_call 22; (with_reducible refine (valid_any _ p w1 HP1.out).mono ?_); rintro e w2 ⟨rfl, hb2⟩; have HB2 := Lib.hid (bon HB1.out hb2); clear hb2))
      go_ret
      first | exact ⟨rfl, HB2.out⟩ | exact ⟨rfl, HB1.out⟩ | exact ⟨ret_bool HE.out.symm, HB2.out⟩ | exact ⟨ret_bool HE.out.symm, HB1.out⟩
def AllRel (l : List PBC) (a : List Int) (w : World) (i : Value) (wx : World) : Prop := ∃ k : Nat, k ≤ l.length ∧ i = .int .i64 k ∧ (∀ j, j < k → holdsC (ixC l j) a = true) ∧ Below w.heap.size w wx
set_option maxHeartbeats 1000000 in
set_option maxRecDepth 100000 in
theorem all26_any (v va : Value) (l : List PBC) (a : List Int) (w : World) (h : PBsIs w v l) (ha : Bytes8 w va a) :
    Calls Tryz.prog 11 #[v, va] w fun e w' => e = .returned (.bool (allR l.length (fun j => holdsC (ixC l j) a))) ∧ Below w.heap.size w w' := by
  obtain ⟨a1, c1, rfl, -, hl1, -, hcell⟩ := h.form
  obtain ⟨⟨a9, c9, rfl, -⟩, -⟩ := id ha
  have HC := Lib.hid hcell
  have HA := Lib.hid ha
  clear h ha hcell
  go_enter Tryz.func11, Tryz.ntmps11
  go_wp2
  go_loopw [9] (fun i wx => AllRel l a w i wx) (fun i _ => l.length - (intOf i).toNat)
  case atStart => exact ⟨0, Nat.zero_le _, rfl, fun j hj => absurd hj (Nat.not_lt_zero _), Below.refl _ _⟩
  case round =>
    obtain ⟨k, hk, rfl, hall, hb⟩ := hrel
    have HALL := Lib.hid hall
    have HB := Lib.hid hb
    clear hall
    by_cases hlt : k < l.length
    · obtain ⟨b, off, rfl, hbl, hc⟩ := HC.out (by omega)
      obtain ⟨vl, vk, hcc, hsl⟩ := hc k hlt
      obtain ⟨k0, k1, k2⟩ := hcc.below hb hbl
      obtain ⟨al, cl, rfl, -⟩ := hsl.lits.form
      obtain ⟨ak, ck, rfl, -⟩ := hsl.coefs.form
      have hal := bal (Below.refl wr.heap.size wr) (.cells #[.slice al (ixC l k).lits.length cl, .slice ak (ixC l k).coefs.length ck, .int .i64 (ixC l k).bound] 46)
      have HPB := Lib.hid (hsl.is.below (bon hb hal))
      have HA2 := Lib.hid (HA.out.below (bon hb hal))
      have HB2 := Lib.hid (bon hb hal)
      clear hb hc hcc hsl hal
      cases hh : holdsC (ixC l k) a with
      | true =>
        have HN := Lib.hid (lt_succ_all HALL.out hh)
        have HH := Lib.hid hh
        clear hh
        go_wp2_with (go_at_call 20; (with_reducible refine (holds_any _ _ _ _ _ HPB.out HA2.out).mono ?_); rintro e w3 ⟨e3, hb3⟩; rw [HH.out] at e3; subst e3; have HB3 := Lib.hid (bon HB2.out hb3); clear hb3)
        first
          | (go_roundw
             case rel => (exact ⟨k + 1, hlt, by go_num, HN.out, HB3.out⟩)
             case measure => (simp [intOf]; omega))
          | (refine ⟨?_, ?_⟩
             · (exact ⟨k + 1, hlt, by go_num, HN.out, HB3.out⟩)
             · (simp [intOf]; omega))
      | false =>
        have HF : Hid (allR l.length (fun j => holdsC (ixC l j) a) = false) := Lib.hid (allR_false k hlt hh)
        have HH := Lib.hid hh
        clear hh
        go_wp2_with (go_at_call 20; (with_reducible refine (holds_any _ _ _ _ _ HPB.out HA2.out).mono ?_); rintro e w3 ⟨e3, hb3⟩; rw [HH.out] at e3; subst e3; have HB3 := Lib.hid (bon HB2.out hb3); clear hb3)
        go_ret
        exact ⟨ret_bool HF.out.symm, HB3.out⟩
    · have HF : Hid (allR l.length (fun j => holdsC (ixC l j) a) = true) := Lib.hid (allR_true fun j hj => HALL.out j (by omega))
      clear hb
      go_wp2
      go_ret
      exact ⟨ret_bool HF.out.symm, HB.out⟩
theorem row_below {B E sz n : Nat} {v : Value} {xs : List Value} {w w' : World} (h : w.ownsRow B E sz v n xs) (hb : Below w.heap.size w w') : w'.ownsRow B E sz v n xs :=
  h.kept (row := none) ⟨hb.os, hb.tape, hb.output, hb.size, fun k hk _ => hb.block k hk⟩ (by cases v.ownBlock <;> simp)
theorem row_base {B E sz n : Nat} {v : Value} {xs : List Value} {w : World} (h : w.ownsRow B E sz v n xs) {g : Nat} (e : v.ownBlock = some g) : B ≤ g ∧ g < w.heap.size := by
  rcases h.2 with ⟨rfl, _⟩ | ⟨g', cap, cur, rfl, hb, hg, _⟩
  · cases e
  · have : g' = g := by simpa [Value.ownBlock] using e
    subst this
    exact ⟨hb, (Array.getElem?_eq_some_iff.1 hg).1⟩
theorem row_form {B E sz n : Nat} {v : Value} {xs : List Value} {w : World} (h : w.ownsRow B E sz v n xs) : ∃ a n c, v = .slice a n c := by
  rcases h.2 with ⟨rfl, _⟩ | ⟨g', cap, cur, rfl, _⟩ <;> exact ⟨_, _, _, rfl⟩
def TxtRel (l : List PBC) (w : World) (v i : Value) (wx : World) : Prop :=
  ∃ k : Nat, k ≤ l.length ∧ i = .int .i64 k ∧ wx.ownsRow w.heap.size 9 1 v k ((textL (l.take k)).map Value.string) ∧ Below w.heap.size w wx
theorem smallC_at {l : List PBC} (h : l.all smallC = true) {k : Nat} (hk : k < l.length) : smallC (ixC l k) = true := by
  have e : ixC l k = l[k] := by simp [ixC, List.getD_eq_getElem?_getD, hk]
  rw [e]
  exact List.all_eq_true.1 h _ (List.getElem_mem hk)
theorem string_small (v : Value) (c : PBC) (w : World) (h : PBIs w v c) (hs : smallC c = true) :
    Calls Tryz.prog 28 #[v] w fun e w' => e = .returned (.string ⟨(strT c).toArray⟩) ∧ Below w.heap.size w w' := by
  unfold smallC at hs
  simp only [Bool.and_eq_true, decide_eq_true_eq, List.all_eq_true] at hs
  exact string_any v c w h hs.1.1.1 hs.1.1.2 hs.1.2 hs.2
set_option maxHeartbeats 1000000 in
set_option maxRecDepth 100000 in
theorem texts_any (v : Value) (l : List PBC) (w : World) (h : PBsIs w v l) (hs : l.all smallC = true) (hl : l.length ≤ 1000000) :
    Calls Tryz.prog 26 #[v] w fun e w' => ∃ vo, e = .returned vo ∧ w'.ownsRow w.heap.size 9 1 vo l.length ((textL l).map Value.string) ∧ Below w.heap.size w w' := by
  obtain ⟨i0, hi, hz0, hz1, hz2⟩ := info_parts infoS
  obtain ⟨a1, c1, rfl, -, hl1, -, hcell⟩ := h.form
  have HC := Lib.hid hcell
  have HSM := Lib.hid hs
  clear h hcell hs
  go_enter Tryz.func26, Tryz.ntmps26
  go_wp2
  go_loopw [3, 8] (fun v i wx => TxtRel l w v i wx) (fun _ i _ => l.length - (intOf i).toNat)
  case atStart => exact ⟨0, Nat.zero_le _, rfl, World.ownsRow_nil _ _ _ _, Below.refl _ _⟩
  case round =>
    obtain ⟨k, hk, rfl, hrow, hb⟩ := hrel
    have HR := Lib.hid hrow
    have HB := Lib.hid hb
    by_cases hlt : k < l.length
    · obtain ⟨b, off, rfl, hbl, hc⟩ := HC.out (by omega)
      obtain ⟨vl, vk, hcc, hsl⟩ := hc k hlt
      obtain ⟨k0, k1, k2⟩ := hcc.below hb hbl
      obtain ⟨al, cl, rfl, -⟩ := hsl.lits.form
      obtain ⟨ak, ck, rfl, -⟩ := hsl.coefs.form
      have hal := bal (Below.refl wr.heap.size wr) (.cells #[.slice al (ixC l k).lits.length cl, .slice ak (ixC l k).coefs.length ck, .int .i64 (ixC l k).bound] 46)
      have HPB := Lib.hid (hsl.is.below (bon hb hal))
      have HAL := Lib.hid hal
      have HSK := Lib.hid (smallC_at HSM.out hlt)
      have HTK : Hid (textL (l.take (k + 1)) = textL (l.take k) ++ [⟨(strT (ixC l k)).toArray⟩]) := Lib.hid (by
        have e : ixC l k = l[k] := by simp [ixC, List.getD_eq_getElem?_getD, hlt]
        rw [e, List.take_succ_eq_append_getElem hlt]
        show textL (l.take k ++ [l[k]]) = _
        simp only [textL, List.map_append, List.map_cons, List.map_nil])
      obtain ⟨av, nv, cv, rfl⟩ := row_form hrow
      clear hb hc hcc hsl hal hrow
      have hzb := HB.out.size
      go_wp2_with (first
        | (at_builtin; refine wpList_append_own _ rfl _ _ 22 rfl w.heap.size 9 i0 _ 1 16 Tryz.underlying22 hi hz0 hz1 hz2 rfl (by decide) _ k ((textL (l.take k)).map Value.string) rfl (row_below HR.out (bal HB3.out _)) ⟨w3.heap.size, 0, none⟩ 1 1 [.string ⟨(strT (ixC l k)).toArray⟩] rfl rfl (newsOf (Blk.new w3 [.string ⟨(strT (ixC l k)).toArray⟩] 9)) (by simp [Value.oneCell']) (by unfold maxLen; omega) (by omega) (by simp; omega) ?_; intro v' w4 hown hgrow _; obtain ⟨g', cap', rfl⟩ := ownsRow_succ hown; have HB4 := Lib.hid (below_grown (bon HB.out HB3.out) (fun g e => (row_base HR.out e).1) hgrow); have HR4 := Lib.hid hown; clear hown hgrow)
        | (go_at_call 28; (with_reducible refine (string_small _ _ _ HPB.out HSK.out).mono ?_); rintro e w3 ⟨rfl, hb3⟩; have HB3 := Lib.hid (bon HAL.out hb3); have hz3 : wr.heap.size ≤ w3.heap.size := HB3.out.size; clear hb3))
      first
        | (go_roundw
           case rel => (exact ⟨k + 1, hlt, by go_num, by rw [HTK.out, List.map_append]; exact HR4.out, HB4.out⟩)
           case measure => (simp [intOf]; omega))
        | (refine ⟨?_, ?_⟩
           · (exact ⟨k + 1, hlt, by go_num, by rw [HTK.out, List.map_append]; exact HR4.out, HB4.out⟩)
           · (simp [intOf]; omega))
    · obtain rfl : k = l.length := by omega
      rw [List.take_length] at HR
      clear hrow hb
      go_wp2
      go_ret
      exact ⟨_, rfl, HR.out, HB.out⟩
section
variable {w : World} {fv : Value} {rb : Nat} {v1 v2 : Value} {la lb : List Int} {b bd rest x y : Int} {vals : Nat → Value} {L : Nat → Bool} {wx w' : World} {v : Value}
theorem RA.callA (h : RA w fv rb v1 v2 la lb b bd rest x y vals L wx) (_hA : L 3 = false) (hAA : L 7 = false) (hB : L 10 = false) (_hBB : L 14 = false) (hb : Below wx.heap.size wx w') (hq : QRow wx.heap.size w' v la) : RA w fv rb v1 v2 la lb b bd rest x y (updN vals 3 v) (updN L 3 true) w' := by
  have hs := h.below.size
  constructor
  · exact bon h.below hb
  · simpa [updN] using h.t0
  · simpa [updN] using h.t1
  · simpa [updN] using h.t2
  · simpa [updN] using h.t4
  · simpa [updN] using h.t5
  · simpa [updN] using h.t8
  · simpa [updN] using h.t9
  · simpa [updN] using h.t11
  · simpa [updN] using h.t12
  · simpa [updN] using h.t15
  · simpa [updN] using h.t16
  · intro _; simpa [updN, hAA] using hq.mono hs
  · intro e; simp [updN, hB] at e
  · intro _ e; simp [updN, hB] at e
  · intro e1 e2; simp only [updN, Nat.reduceEqDiff, if_false] at e1 e2; obtain ⟨g, e, k⟩ := h.sa e1 e2; exact ⟨g, by simpa [updN] using e, k.below hb⟩
  · intro e1 e2; simp only [updN, Nat.reduceEqDiff, if_false] at e1 e2; obtain ⟨g, e, k, -⟩ := h.sb e1 e2; refine ⟨g, by simpa [updN] using e, k.below hb, fun _ e3 => ?_⟩; simp only [updN, Nat.reduceEqDiff, if_true, if_false, hAA] at e3; have := (hq.base e3).1; have := k.lt; omega
theorem RA.buildA (h : RA w fv rb v1 v2 la lb b bd rest x y vals L wx) (_hAA : L 7 = false) : RA w fv rb v1 v2 la lb b bd rest x y (updN vals 6 (.slice (some ⟨wx.heap.size, 0, none⟩) 1 1)) (updN L 6 true) (wx.alloc (.cells #[.int .i64 x] 3)) := by
  have hb := bal (Below.refl wx.heap.size wx) (.cells #[.int .i64 x] 3)
  constructor
  · exact bon h.below hb
  · simpa [updN] using h.t0
  · simpa [updN] using h.t1
  · simpa [updN] using h.t2
  · simpa [updN] using h.t4
  · simpa [updN] using h.t5
  · simpa [updN] using h.t8
  · simpa [updN] using h.t9
  · simpa [updN] using h.t11
  · simpa [updN] using h.t12
  · simpa [updN] using h.t15
  · simpa [updN] using h.t16
  · intro e; simpa [updN] using (h.ra (by simpa [updN] using e)).below hb
  · intro e; simpa [updN] using (h.rb (by simpa [updN] using e)).below hb
  · simpa [updN] using h.far
  · intro _ _; exact ⟨_, by simp [updN], Blk.new wx [.int .i64 x] _⟩
  · intro e1 e2; simp only [updN, Nat.reduceEqDiff, if_false] at e1 e2; obtain ⟨g, e, k, k2⟩ := h.sb e1 e2; exact ⟨g, by simpa [updN] using e, k.below hb, by simpa [updN] using k2⟩
theorem RA.appA (h : RA w fv rb v1 v2 la lb b bd rest x y vals L wx) (hA : L 3 = true) (hAA : L 7 = false) (hB : L 10 = false) (_hBB : L 14 = false) (hq : QRow w.heap.size w' v (la ++ [x])) (hg : wx.grownBy w' (vals 3).ownBlock) (ho : v.ownBlock = (vals 3).ownBlock ∨ v.ownBlock = some wx.heap.size) : RA w fv rb v1 v2 la lb b bd rest x y (updN vals 7 v) (updN L 7 true) w' := by
  have hra := h.ra hA
  simp only [hAA, Bool.false_eq_true, if_false] at hra
  have hbase := fun g e => hra.base (g := g) e
  constructor
  · exact h.below.trans (below_row hg h.below.size fun g e => (hbase g e).1)
  · simpa [updN] using h.t0
  · simpa [updN] using h.t1
  · simpa [updN] using h.t2
  · simpa [updN] using h.t4
  · simpa [updN] using h.t5
  · simpa [updN] using h.t8
  · simpa [updN] using h.t9
  · simpa [updN] using h.t11
  · simpa [updN] using h.t12
  · simpa [updN] using h.t15
  · simpa [updN] using h.t16
  · intro _; simpa [updN] using hq
  · intro e; simp [updN, hB] at e
  · intro _ e; simp [updN, hB] at e
  · intro _ e; simp [updN] at e
  · intro e1 e2; simp only [updN, Nat.reduceEqDiff, if_false] at e1 e2; obtain ⟨g, e, k, k2⟩ := h.sb e1 e2; have k3 := k2 hA; simp only [hAA, Bool.false_eq_true, if_false] at k3; refine ⟨g, by simpa [updN] using e, k.same (hg.block g k.lt fun e3 => k3 e3.symm), fun _ e3 => ?_⟩; simp only [updN, if_true] at e3; rcases ho with ho | ho; (rw [ho] at e3; exact k3 e3); (rw [ho] at e3; have := k.lt; have := Option.some.inj e3; omega)
theorem RA.callB (h : RA w fv rb v1 v2 la lb b bd rest x y vals L wx) (hA : L 3 = true) (hAA : L 7 = true) (_hB : L 10 = false) (hBB : L 14 = false) (hb : Below wx.heap.size wx w') (hq : QRow wx.heap.size w' v lb) : RA w fv rb v1 v2 la lb b bd rest x y (updN vals 10 v) (updN L 10 true) w' := by
  have hra := h.ra hA
  have hs := h.below.size
  simp only [hAA, if_true] at hra
  constructor
  · exact bon h.below hb
  · simpa [updN] using h.t0
  · simpa [updN] using h.t1
  · simpa [updN] using h.t2
  · simpa [updN] using h.t4
  · simpa [updN] using h.t5
  · simpa [updN] using h.t8
  · simpa [updN] using h.t9
  · simpa [updN] using h.t11
  · simpa [updN] using h.t12
  · simpa [updN] using h.t15
  · simpa [updN] using h.t16
  · intro _; simpa [updN, hAA] using hra.below hb
  · intro _; simpa [updN, hBB] using hq.mono hs
  · intro _ _ g e1 e2; simp only [updN, Nat.reduceEqDiff, if_true, if_false, hAA, hBB, Bool.false_eq_true] at e1 e2; have := (hra.base e1).2; have := (hq.base e2).1; omega
  · intro e1 e2; simp [updN, hAA] at e2
  · intro e1 e2; simp only [updN, Nat.reduceEqDiff, if_false] at e1 e2; obtain ⟨g, e, k, k2⟩ := h.sb e1 e2; exact ⟨g, by simpa [updN] using e, k.below hb, by simpa [updN] using k2⟩
theorem RA.buildB (h : RA w fv rb v1 v2 la lb b bd rest x y vals L wx) (_hBB : L 14 = false) : RA w fv rb v1 v2 la lb b bd rest x y (updN vals 13 (.slice (some ⟨wx.heap.size, 0, none⟩) 1 1)) (updN L 13 true) (wx.alloc (.cells #[.int .i64 y] 3)) := by
  have hb := bal (Below.refl wx.heap.size wx) (.cells #[.int .i64 y] 3)
  constructor
  · exact bon h.below hb
  · simpa [updN] using h.t0
  · simpa [updN] using h.t1
  · simpa [updN] using h.t2
  · simpa [updN] using h.t4
  · simpa [updN] using h.t5
  · simpa [updN] using h.t8
  · simpa [updN] using h.t9
  · simpa [updN] using h.t11
  · simpa [updN] using h.t12
  · simpa [updN] using h.t15
  · simpa [updN] using h.t16
  · intro e; simpa [updN] using (h.ra (by simpa [updN] using e)).below hb
  · intro e; simpa [updN] using (h.rb (by simpa [updN] using e)).below hb
  · simpa [updN] using h.far
  · intro e1 e2; simp only [updN, Nat.reduceEqDiff, if_false] at e1 e2; obtain ⟨g, e, k⟩ := h.sa e1 e2; exact ⟨g, by simpa [updN] using e, k.below hb⟩
  · intro _ _; refine ⟨_, by simp [updN], Blk.new wx [.int .i64 y] _, fun e e2 => ?_⟩; have e3 : L 3 = true := (by simpa [updN] using e); have hr := h.ra e3; have e4 : (if L 7 then vals 7 else vals 3).ownBlock = some wx.heap.size := (by simpa [updN] using e2); have := (hr.base e4).2; omega
theorem RA.appB (h : RA w fv rb v1 v2 la lb b bd rest x y vals L wx) (hA : L 3 = true) (hAA : L 7 = true) (hB : L 10 = true) (hBB : L 14 = false) (hq : QRow w.heap.size w' v (lb ++ [y])) (hg : wx.grownBy w' (vals 10).ownBlock) (ho : v.ownBlock = (vals 10).ownBlock ∨ v.ownBlock = some wx.heap.size) : RA w fv rb v1 v2 la lb b bd rest x y (updN vals 14 v) (updN L 14 true) w' := by
  have hra := h.ra hA
  have hrb := h.rb hB
  have hf := h.far hA hB
  simp only [hAA, hBB, Bool.false_eq_true, if_true, if_false] at hra hrb hf
  have hbase := fun g e => hrb.base (g := g) e
  constructor
  · exact h.below.trans (below_row hg h.below.size fun g e => (hbase g e).1)
  · simpa [updN] using h.t0
  · simpa [updN] using h.t1
  · simpa [updN] using h.t2
  · simpa [updN] using h.t4
  · simpa [updN] using h.t5
  · simpa [updN] using h.t8
  · simpa [updN] using h.t9
  · simpa [updN] using h.t11
  · simpa [updN] using h.t12
  · simpa [updN] using h.t15
  · simpa [updN] using h.t16
  · intro _; have := hra.kept (w' := w') (fun i _ hi hv => hg.block i hi fun e => hf i hv e.symm); simpa [updN, hAA] using this
  · intro _; simpa [updN] using hq
  · intro _ _ g e1 e2; simp only [updN, Nat.reduceEqDiff, if_true, if_false, hAA] at e1 e2; rcases ho with ho | ho; (rw [ho] at e2; exact hf g e1 e2); (rw [ho] at e2; have := (hra.base e1).2; have := Option.some.inj e2; omega)
  · intro _ e; simp [updN, hAA] at e
  · intro _ e; simp [updN] at e
variable {Fin : World → Prop} {i : Nat}
theorem RA.start0 : RA.J w fv rb v1 v2 la lb b bd rest x y Fin (fun _ => undef) (fun _ => false) w.drew := RA.start
end
section
variable {w : World} {fv : Value} {rb : Nat} {v1 v2 : Value} {la lb : List Int} {b bd rest x y : Int} {vals : Nat → Value} {L : Nat → Bool} {wx w' : World} {v : Value}
theorem RB.callA (h : RB w fv rb v1 v2 la lb b bd rest x y vals L wx) (_hA : L 3 = false) (hAA : L 6 = false) (hB : L 9 = false) (_hBB : L 13 = false) (hb : Below wx.heap.size wx w') (hq : QRow wx.heap.size w' v la) : RB w fv rb v1 v2 la lb b bd rest x y (updN vals 3 v) (updN L 3 true) w' := by
  have hs := h.below.size
  constructor
  · exact bon h.below hb
  · simpa [updN] using h.t0
  · simpa [updN] using h.t1
  · simpa [updN] using h.t2
  · simpa [updN] using h.t4
  · simpa [updN] using h.t7
  · simpa [updN] using h.t8
  · simpa [updN] using h.t10
  · simpa [updN] using h.t11
  · simpa [updN] using h.t14
  · intro _; simpa [updN, hAA] using hq.mono hs
  · intro e; simp [updN, hB] at e
  · intro _ e; simp [updN, hB] at e
  · intro e1 e2; simp only [updN, Nat.reduceEqDiff, if_false] at e1 e2; obtain ⟨g, e, k⟩ := h.sa e1 e2; exact ⟨g, by simpa [updN] using e, k.below hb⟩
  · intro e1 e2; simp only [updN, Nat.reduceEqDiff, if_false] at e1 e2; obtain ⟨g, e, k, -⟩ := h.sb e1 e2; refine ⟨g, by simpa [updN] using e, k.below hb, fun _ e3 => ?_⟩; simp only [updN, Nat.reduceEqDiff, if_true, if_false, hAA] at e3; have := (hq.base e3).1; have := k.lt; omega
theorem RB.buildA (h : RB w fv rb v1 v2 la lb b bd rest x y vals L wx) (_hAA : L 6 = false) : RB w fv rb v1 v2 la lb b bd rest x y (updN vals 5 (.slice (some ⟨wx.heap.size, 0, none⟩) 1 1)) (updN L 5 true) (wx.alloc (.cells #[.int .i64 x] 3)) := by
  have hb := bal (Below.refl wx.heap.size wx) (.cells #[.int .i64 x] 3)
  constructor
  · exact bon h.below hb
  · simpa [updN] using h.t0
  · simpa [updN] using h.t1
  · simpa [updN] using h.t2
  · simpa [updN] using h.t4
  · simpa [updN] using h.t7
  · simpa [updN] using h.t8
  · simpa [updN] using h.t10
  · simpa [updN] using h.t11
  · simpa [updN] using h.t14
  · intro e; simpa [updN] using (h.ra (by simpa [updN] using e)).below hb
  · intro e; simpa [updN] using (h.rb (by simpa [updN] using e)).below hb
  · simpa [updN] using h.far
  · intro _ _; exact ⟨_, by simp [updN], Blk.new wx [.int .i64 x] _⟩
  · intro e1 e2; simp only [updN, Nat.reduceEqDiff, if_false] at e1 e2; obtain ⟨g, e, k, k2⟩ := h.sb e1 e2; exact ⟨g, by simpa [updN] using e, k.below hb, by simpa [updN] using k2⟩
theorem RB.appA (h : RB w fv rb v1 v2 la lb b bd rest x y vals L wx) (hA : L 3 = true) (hAA : L 6 = false) (hB : L 9 = false) (_hBB : L 13 = false) (hq : QRow w.heap.size w' v (la ++ [x])) (hg : wx.grownBy w' (vals 3).ownBlock) (ho : v.ownBlock = (vals 3).ownBlock ∨ v.ownBlock = some wx.heap.size) : RB w fv rb v1 v2 la lb b bd rest x y (updN vals 6 v) (updN L 6 true) w' := by
  have hra := h.ra hA
  simp only [hAA, Bool.false_eq_true, if_false] at hra
  have hbase := fun g e => hra.base (g := g) e
  constructor
  · exact h.below.trans (below_row hg h.below.size fun g e => (hbase g e).1)
  · simpa [updN] using h.t0
  · simpa [updN] using h.t1
  · simpa [updN] using h.t2
  · simpa [updN] using h.t4
  · simpa [updN] using h.t7
  · simpa [updN] using h.t8
  · simpa [updN] using h.t10
  · simpa [updN] using h.t11
  · simpa [updN] using h.t14
  · intro _; simpa [updN] using hq
  · intro e; simp [updN, hB] at e
  · intro _ e; simp [updN, hB] at e
  · intro _ e; simp [updN] at e
  · intro e1 e2; simp only [updN, Nat.reduceEqDiff, if_false] at e1 e2; obtain ⟨g, e, k, k2⟩ := h.sb e1 e2; have k3 := k2 hA; simp only [hAA, Bool.false_eq_true, if_false] at k3; refine ⟨g, by simpa [updN] using e, k.same (hg.block g k.lt fun e3 => k3 e3.symm), fun _ e3 => ?_⟩; simp only [updN, if_true] at e3; rcases ho with ho | ho; (rw [ho] at e3; exact k3 e3); (rw [ho] at e3; have := k.lt; have := Option.some.inj e3; omega)
theorem RB.callB (h : RB w fv rb v1 v2 la lb b bd rest x y vals L wx) (hA : L 3 = true) (hAA : L 6 = true) (_hB : L 9 = false) (hBB : L 13 = false) (hb : Below wx.heap.size wx w') (hq : QRow wx.heap.size w' v lb) : RB w fv rb v1 v2 la lb b bd rest x y (updN vals 9 v) (updN L 9 true) w' := by
  have hra := h.ra hA
  have hs := h.below.size
  simp only [hAA, if_true] at hra
  constructor
  · exact bon h.below hb
  · simpa [updN] using h.t0
  · simpa [updN] using h.t1
  · simpa [updN] using h.t2
  · simpa [updN] using h.t4
  · simpa [updN] using h.t7
  · simpa [updN] using h.t8
  · simpa [updN] using h.t10
  · simpa [updN] using h.t11
  · simpa [updN] using h.t14
  · intro _; simpa [updN, hAA] using hra.below hb
  · intro _; simpa [updN, hBB] using hq.mono hs
  · intro _ _ g e1 e2; simp only [updN, Nat.reduceEqDiff, if_true, if_false, hAA, hBB, Bool.false_eq_true] at e1 e2; have := (hra.base e1).2; have := (hq.base e2).1; omega
  · intro e1 e2; simp [updN, hAA] at e2
  · intro e1 e2; simp only [updN, Nat.reduceEqDiff, if_false] at e1 e2; obtain ⟨g, e, k, k2⟩ := h.sb e1 e2; exact ⟨g, by simpa [updN] using e, k.below hb, by simpa [updN] using k2⟩
theorem RB.buildB (h : RB w fv rb v1 v2 la lb b bd rest x y vals L wx) (_hBB : L 13 = false) : RB w fv rb v1 v2 la lb b bd rest x y (updN vals 12 (.slice (some ⟨wx.heap.size, 0, none⟩) 1 1)) (updN L 12 true) (wx.alloc (.cells #[.int .i64 y] 3)) := by
  have hb := bal (Below.refl wx.heap.size wx) (.cells #[.int .i64 y] 3)
  constructor
  · exact bon h.below hb
  · simpa [updN] using h.t0
  · simpa [updN] using h.t1
  · simpa [updN] using h.t2
  · simpa [updN] using h.t4
  · simpa [updN] using h.t7
  · simpa [updN] using h.t8
  · simpa [updN] using h.t10
  · simpa [updN] using h.t11
  · simpa [updN] using h.t14
  · intro e; simpa [updN] using (h.ra (by simpa [updN] using e)).below hb
  · intro e; simpa [updN] using (h.rb (by simpa [updN] using e)).below hb
  · simpa [updN] using h.far
  · intro e1 e2; simp only [updN, Nat.reduceEqDiff, if_false] at e1 e2; obtain ⟨g, e, k⟩ := h.sa e1 e2; exact ⟨g, by simpa [updN] using e, k.below hb⟩
  · intro _ _; refine ⟨_, by simp [updN], Blk.new wx [.int .i64 y] _, fun e e2 => ?_⟩; have e3 : L 3 = true := (by simpa [updN] using e); have hr := h.ra e3; have e4 : (if L 6 then vals 6 else vals 3).ownBlock = some wx.heap.size := (by simpa [updN] using e2); have := (hr.base e4).2; omega
theorem RB.appB (h : RB w fv rb v1 v2 la lb b bd rest x y vals L wx) (hA : L 3 = true) (hAA : L 6 = true) (hB : L 9 = true) (hBB : L 13 = false) (hq : QRow w.heap.size w' v (lb ++ [y])) (hg : wx.grownBy w' (vals 9).ownBlock) (ho : v.ownBlock = (vals 9).ownBlock ∨ v.ownBlock = some wx.heap.size) : RB w fv rb v1 v2 la lb b bd rest x y (updN vals 13 v) (updN L 13 true) w' := by
  have hra := h.ra hA
  have hrb := h.rb hB
  have hf := h.far hA hB
  simp only [hAA, hBB, Bool.false_eq_true, if_true, if_false] at hra hrb hf
  have hbase := fun g e => hrb.base (g := g) e
  constructor
  · exact h.below.trans (below_row hg h.below.size fun g e => (hbase g e).1)
  · simpa [updN] using h.t0
  · simpa [updN] using h.t1
  · simpa [updN] using h.t2
  · simpa [updN] using h.t4
  · simpa [updN] using h.t7
  · simpa [updN] using h.t8
  · simpa [updN] using h.t10
  · simpa [updN] using h.t11
  · simpa [updN] using h.t14
  · intro _; have := hra.kept (w' := w') (fun i _ hi hv => hg.block i hi fun e => hf i hv e.symm); simpa [updN, hAA] using this
  · intro _; simpa [updN] using hq
  · intro _ _ g e1 e2; simp only [updN, Nat.reduceEqDiff, if_true, if_false, hAA] at e1 e2; rcases ho with ho | ho; (rw [ho] at e2; exact hf g e1 e2); (rw [ho] at e2; have := (hra.base e1).2; have := Option.some.inj e2; omega)
  · intro _ e; simp [updN, hAA] at e
  · intro _ e; simp [updN] at e
variable {Fin : World → Prop} {i : Nat}
theorem RB.start0 : RB.J w fv rb v1 v2 la lb b bd rest x y Fin (fun _ => undef) (fun _ => false) w.drew := RB.start
end
end Go.Proofs.YtjodocheiejkeaaGreatDoor
