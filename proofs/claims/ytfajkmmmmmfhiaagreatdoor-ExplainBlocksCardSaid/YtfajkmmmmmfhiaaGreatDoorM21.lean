/- My texts QRow, Sb19, Bl41, Bw41, merged. -/
import Derived.Test.YtfajkmmmmmfhiaaGreatDoorM03
import Derived.Test.YtfajkmmmmmfhiaaGreatDoorM00
import Derived.Test.YtfajkmmmmmfhiaaGreatDoorProg
import Derived.WalkKit
import Derived.Lib.Hide
import Derived.Deep.QuietTactic
import Derived.BigQuiet
import Derived.WalkSpells
import Derived.Lib.SliceRun
import Derived.MapKept
import Derived.Maps.OwnSet
import Derived.Maps.OwnOps
import Derived.Test.YtfajkmmmmmfhiaaGreatDoorM02
import Derived.Test.YtfajkmmmmmfhiaaGreatDoorM01
import Derived.Deep.AppendLies
import Derived.Test.YtfajkmmmmmfhiaaGreatDoorM04
import Derived.Lib.Bytealg
import Derived.Test.YtfajkmmmmmfhiaaGreatDoorM11
import Derived.Deep.DeepCutAuto
import Derived.Test.YtfajkmmmmmfhiaaGreatDoorM07
import Derived.Test.YtfajkmmmmmfhiaaGreatDoorM06
import Derived.Test.YtfajkmmmmmfhiaaGreatDoorM05
import Derived.Laws.EntriesVeiled
import Derived.Deep.RegionWith
import Derived.Deep.OwnRows
import Derived.RangeFuncNested
import Derived.RangeFuncBound
import Derived.RangeFuncCalls
import Derived.RangeFuncLeaves
import Derived.OwnWalkIn
import Derived.TacticsInMore
import Derived.LoopNIn
import Derived.LoopIn
import Derived.Stop.RegionWithIn
import Derived.Shelf.Abstract
import Derived.Deep.LoopGhost
import Derived.Deep.DrawnRows
import Derived.Test.YtfajkmmmmmfhiaaGreatDoorM10
import Derived.Test.YtfajkmmmmmfhiaaGreatDoorM08
import Derived.Shelf.Sort.Plain
import Derived.Shelf.Slices.CompactI
import Derived.Shelf.Slices.In.SortNone
import Derived.Shelf.Strconv.Itoa3
import Derived.Shelf.Strings.BuilderK
import Derived.Shelf.Slices.SearchI
import Derived.Shelf.Slices.Empties
import Derived.Test.YtfajkmmmmmfhiaaGreatDoorM09
import Derived.Deep.AppendSrc
import Derived.Test.YtfajkmmmmmfhiaaGreatDoorM17
import Derived.Test.YtfajkmmmmmfhiaaGreatDoorM16
import Derived.Test.YtfajkmmmmmfhiaaGreatDoorM14
import Derived.Test.YtfajkmmmmmfhiaaGreatDoorM12
import Derived.Lib.ItoaNum
import Derived.Test.YtfajkmmmmmfhiaaGreatDoorM13
import Derived.Lib.SlicesCompact
import Derived.Sort.OwnSortedInts
import Derived.Sort.QuietThIn
import Derived.Test.YtfajkmmmmmfhiaaGreatDoorM15
import Derived.Maps.RangeWalk
import Derived.RangeFuncBox
import Derived.Maps.OwnIn
import Derived.Lib.RowBridge
import Derived.Test.YtfajkmmmmmfhiaaGreatDoorM19

namespace Go.Proofs.YtfajkmmmmmfhiaaGreatDoor
open Go.RowKit
theorem Blk.ints1 {w : World} {b : Nat} {x : Int} (h : Blk w b [.int .i64 x] 3) (hx : InI x) : Ints w (.slice (some ⟨b, 0, none⟩) 1 1) [x] :=
  Blk.ints (l := [x]) h (fun i => by cases i <;> simp [ix, InI] at *; exact hx) (by simp)
def inSub (a b : List Int) : Bool := allR a.length fun i => decide (ix a i ∈ b)
theorem inSub_iff {a b : List Int} : inSub a b = true ↔ ∀ x ∈ a, x ∈ b := by
  unfold inSub
  constructor
  · intro h x hx
    obtain ⟨i, hi, rfl⟩ := List.getElem_of_mem hx
    have := allR_get h i hi
    rw [decide_eq_true_eq] at this
    simpa [ix, List.getD, hi] using this
  · intro h
    exact allR_true fun i hi => decide_eq_true (h _ (ix_mem hi))
def In1Rel (a b : List Int) (i : Value) : Prop := ∃ k, k ≤ a.length ∧ i = .int .i64 k ∧ ∀ j, j < k → decide (ix a j ∈ b) = true
def In2Rel (x : Int) (b : List Int) (f i : Value) : Prop := ∃ k, k ≤ b.length ∧ i = .int .i64 k ∧ f = .bool (decide (x ∈ b.take k))
set_option maxHeartbeats 1000000 in
set_option maxRecDepth 100000 in
theorem in19_any (va vb : Value) (a b : List Int) (w : World) (ha : Ints w va a) (hb : Ints w vb b) :
    Calls Tryz.prog 29 #[va, vb] w fun e w' => e = .returned (.bool (inSub a b)) ∧ w = w' := by
  obtain ⟨a1, c1, rfl, -, hl1, -, hc1⟩ := ha.form
  obtain ⟨a2, c2, rfl, -, hl2, -, hc2⟩ := hb.form
  have F1 := Lib.hid ha.2
  have F2 := Lib.hid hb.2
  have HC1 := Lib.hid hc1
  have HC2 := Lib.hid hc2
  clear ha hb hc1 hc2
  go_enter Tryz.func29, Tryz.ntmps29
  go_wp2
  go_loop [12] (fun i => In1Rel a b i) (fun i => a.length - (intOf i).toNat)
  case atStart => exact ⟨0, Nat.zero_le _, rfl, fun j hj => absurd hj (Nat.not_lt_zero _)⟩
  case round =>
    obtain ⟨k, hk, rfl, hall⟩ := hrel
    have HALL := Lib.hid hall
    clear hall
    by_cases hlt : k < a.length
    · obtain ⟨b1, o1, rfl, hb1, hc⟩ := HC1.out (by omega)
      have q1 := hc k hlt
      have f1 := F1.out k
      clear hc
      obtain ⟨x, hx⟩ : ∃ x, ix a k = x := ⟨_, rfl⟩
      have HX := Lib.hid hx
      rw [hx] at q1 f1
      clear hx
      go_wp2
      go_loop [7, 18] (fun f i => In2Rel x b f i) (fun _ i => b.length - (intOf i).toNat)
      case atStart => exact ⟨0, Nat.zero_le _, rfl, by simp⟩
      case round =>
        obtain ⟨j, hj, rfl, rfl⟩ := hrel
        by_cases hltj : j < b.length
        · obtain ⟨b2, o2, rfl, hb2, hc⟩ := HC2.out (by omega)
          have q2 := hc j hltj
          have f2 := F2.out j
          clear hc
          have HT : Hid (decide (x ∈ b.take (j + 1)) = (decide (x ∈ b.take j) || (x == ix b j))) := Lib.hid (by
            rw [take_ix b j hltj, Bool.eq_iff_iff]
            simp)
          cases hB : decide (x ∈ b.take j) with
          | true =>
            have HT2 := Lib.hid (HT.out.trans (by rw [hB]; rfl : _ = true))
            clear hB
            go_wp2
            first
              | (go_round
                 case rel => (exact ⟨j + 1, hltj, by go_num, by rw [HT2.out]⟩)
                 case measure => (simp [intOf]; omega))
              | (refine ⟨?_, ?_⟩
                 · (exact ⟨j + 1, hltj, by go_num, by rw [HT2.out]⟩)
                 · (simp [intOf]; omega))
          | false =>
            have HT2 := Lib.hid (HT.out.trans (by rw [hB]; rfl : _ = (x == ix b j)))
            clear hB
            go_wp2
            first
              | (go_round
                 case rel => (exact ⟨j + 1, hltj, by go_num, by rw [HT2.out]⟩)
                 case measure => (simp [intOf]; omega))
              | (refine ⟨?_, ?_⟩
                 · (exact ⟨j + 1, hltj, by go_num, by rw [HT2.out]⟩)
                 · (simp [intOf]; omega))
        · obtain rfl : j = b.length := by omega
          rw [List.take_length]
          cases hB : decide (x ∈ b) with
          | true =>
            have HN := Lib.hid (fun j (hj : j < k + 1) => (by rcases Nat.lt_succ_iff_lt_or_eq.1 hj with h1 | rfl; exact HALL.out j h1; rw [HX.out]; exact hB : decide (ix a j ∈ b) = true))
            clear hB
            go_wp2
            first
              | (go_round
                 case rel => (exact ⟨k + 1, hlt, by go_num, HN.out⟩)
                 case measure => (simp [intOf]; omega))
              | (refine ⟨?_, ?_⟩
                 · (exact ⟨k + 1, hlt, by go_num, HN.out⟩)
                 · (simp [intOf]; omega))
          | false =>
            have HF : Hid (inSub a b = false) := Lib.hid (allR_false k hlt (by rw [HX.out]; exact hB))
            clear hB
            go_wp2
            go_ret
            exact ⟨ret_bool HF.out.symm, rfl⟩
    · have HF : Hid (inSub a b = true) := Lib.hid (allR_true fun j hj => HALL.out j (by omega))
      go_wp2
      go_ret
      exact ⟨ret_bool HF.out.symm, rfl⟩
theorem inSub_one {x : Int} {l : List Int} : inSub [x] l = decide (x ∈ l) := by
  rw [Bool.eq_iff_iff, inSub_iff, decide_eq_true_eq]
  simp
theorem in1_call {v : Value} {l : List Int} {a : Int} {b : Bool} {w : World} (hb : decide (a ∈ l) = b) (ha : InI a) (h : Ints w v l) :
    Calls Tryz.prog 29 #[.slice (some ⟨w.heap.size, 0, none⟩) 1 1, v] (w.alloc (.cells #[.int .i64 a] 3)) fun e w' => e = .returned (.bool b) ∧ Below w.heap.size w w' := by
  refine (in19_any _ v [a] l _ ((Blk.new w [.int .i64 a] 3).ints1 ha) (h.below (bal (Below.refl _ _) _))).mono ?_
  rintro e w' ⟨rfl, rfl⟩
  rw [inSub_one, hb]
  exact ⟨rfl, bal (Below.refl _ _) _⟩
end Go.Proofs.YtfajkmmmmmfhiaaGreatDoor
