/- My texts Sb19, Bl41, Fw17, Tx1, Tx2, Tx3, merged. -/
import Derived.Test.YtfajkmmmmmfhiaaGreatDoorM14
import Derived.Test.YtfajkmmmmmfhiaaGreatDoorM04
import Derived.Test.YtfajkmmmmmfhiaaGreatDoorM03
import Derived.Test.YtfajkmmmmmfhiaaGreatDoorM00
import Derived.Test.YtfajkmmmmmfhiaaGreatDoorProg
import Derived.WalkKit
import Derived.Lib.Hide
import Derived.Deep.QuietTactic
import Derived.BigQuiet
import Derived.WalkSpells
import Derived.Lib.SliceRun
import Derived.MapKept
import Derived.Maps.OwnSet
import Derived.Maps.OwnOps
import Derived.Test.YtfajkmmmmmfhiaaGreatDoorM02
import Derived.Test.YtfajkmmmmmfhiaaGreatDoorM01
import Derived.Deep.AppendLies
import Derived.Lib.Bytealg
import Derived.Deep.DeepCutAuto
import Derived.Test.YtfajkmmmmmfhiaaGreatDoorM07
import Derived.Test.YtfajkmmmmmfhiaaGreatDoorM06
import Derived.Test.YtfajkmmmmmfhiaaGreatDoorM05
import Derived.Laws.EntriesVeiled
import Derived.Deep.RegionWith
import Derived.Deep.OwnRows
import Derived.RangeFuncNested
import Derived.RangeFuncBound
import Derived.RangeFuncCalls
import Derived.RangeFuncLeaves
import Derived.OwnWalkIn
import Derived.TacticsInMore
import Derived.LoopNIn
import Derived.LoopIn
import Derived.Stop.RegionWithIn
import Derived.Shelf.Abstract
import Derived.Deep.LoopGhost
import Derived.Deep.DrawnRows
import Derived.Test.YtfajkmmmmmfhiaaGreatDoorM15
import Derived.Test.YtfajkmmmmmfhiaaGreatDoorM08
import Derived.Shelf.Sort.Plain
import Derived.Shelf.Slices.CompactI
import Derived.Shelf.Slices.In.SortNone
import Derived.Shelf.Strconv.Itoa3
import Derived.Shelf.Strings.BuilderK
import Derived.Shelf.Slices.SearchI
import Derived.Shelf.Slices.Empties
import Derived.Test.YtfajkmmmmmfhiaaGreatDoorM09
import Derived.Deep.AppendSrc
import Derived.Test.YtfajkmmmmmfhiaaGreatDoorM11
import Derived.Lib.ItoaNum
import Derived.Test.YtfajkmmmmmfhiaaGreatDoorM13
import Derived.Test.YtfajkmmmmmfhiaaGreatDoorM10
import Derived.Lib.SlicesCompact
import Derived.Sort.OwnSortedInts

namespace Go.Proofs.YtfajkmmmmmfhiaaGreatDoor
open Go.RowKit
theorem ix19 {l : List Int} {i : Nat} (h : i < l.length) : ix l i = l[i] := by simp [ix, List.getD, h]
theorem subL_set19 (bits : Int) {n : Int} (_hn : 0 ≤ n) : setQ n (subL bits n.toNat) = true := by
  unfold setQ
  refine allR_true fun j hj => ?_
  unfold setTo
  have h1 := subL_range bits n.toNat _ (ix_mem hj)
  rw [decide_eq_true (show 1 ≤ ix (subL bits n.toNat) j ∧ ix (subL bits n.toNat) j ≤ n by omega), Bool.true_and, Bool.or_eq_true]
  cases j with
  | zero => exact .inl rfl
  | succ j =>
    refine .inr (decide_eq_true ?_)
    rw [Nat.add_sub_cancel, ix19 (show j < _ by omega), ix19 hj]
    exact List.pairwise_iff_getElem.1 (subL_sorted bits n.toNat) j (j + 1) (by omega) hj (by omega)
theorem and_one19 (x : Int) : Go.bits .and .u16 x 1 = x % 2 := by
  unfold Go.bits
  simp only [BitVec.toNat_and, BitVec.toNat_ofInt]
  have e : ((1 : Int) % ((2 ^ IntKind.u16.bits : Nat) : Int)).toNat = 1 := by decide
  rw [e, Nat.and_one_is_mod]
  have e2 : ((2 ^ IntKind.u16.bits : Nat) : Int) = 65536 := by decide
  rw [e2, IntKind.wrap_u16]
  omega
theorem bit_test19 {bits : Int} {k : Nat} : (Go.bits .and .u16 (bits / 2 ^ k) 1 == 1) = bitAt bits k := by
  rw [and_one19]
  unfold bitAt
  rw [Bool.eq_iff_iff, beq_iff_eq, decide_eq_true_eq]
def Sb19Rel (bits : Int) (w : World) (n : Nat) (v i : Value) (wx : World) : Prop :=
  ∃ k : Nat, k ≤ n ∧ i = .int .i64 ((k : Int) + 1) ∧ QRow w.heap.size wx v (subL bits k) ∧ Below w.heap.size w wx
set_option maxHeartbeats 1000000 in
set_option maxRecDepth 100000 in
theorem subset19_any (n : Nat) (bits : Int) (hn : n ≤ 16) (w : World) :
    Calls Tryz.prog 28 #[.int .i64 n, .int .u16 bits] w fun e w' => ∃ v, e = .returned v ∧ QRow w.heap.size w' v (subL bits n) ∧ Below w.heap.size w w' := by
  go_enter Tryz.func28, Tryz.ntmps28
  go_wp2
  go_loopw [5, 6] (fun v i wx => Sb19Rel bits w n v i wx) (fun _ i _ => n + 1 - (intOf i).toNat)
  case atStart => exact ⟨0, Nat.zero_le _, rfl, QRow.nil _ _, Below.refl _ _⟩
  case round =>
    obtain ⟨k, hk, rfl, hq, hbl⟩ := hrel
    have HQ := Lib.hid hq
    have HBX := Lib.hid hbl
    have hlen2 := subL_len bits k
    have hlen3 : ((subL bits k).length + 1) * 8 ≤ 140737488351232 := by omega
    obtain ⟨av, nv, cv, rfl⟩ := hq.form
    have hzr := hbl.size
    clear hq hbl
    by_cases hlt : k < n
    · have hbt := bit_test19 (bits := bits) (k := k)
      have hmin : min k 64 = k := Nat.min_eq_left (by omega)
      cases hb : bitAt bits k with
      | true =>
        rw [hb] at hbt
        have HS : Hid (subL bits (k + 1) = subL bits k ++ [(k : Int) + 1]) := Lib.hid (by simp [subL, hb])
        have hxI : InI ((k : Int) + 1) := by unfold InI; omega
        have HXI := Lib.hid hxI
        clear hb hxI
        go_wp2_with (at_builtin; refine wpList_appendQ rfl _ _ 23 Tryz.underlying23 rfl w.heap.size _ (subL bits k) ((k : Int) + 1) rfl (HQ.out.kept (w' := wr.alloc (.cells #[.int .i64 ((k : Int) + 1)] 3)) (fun i h1 h2 _ => Below.heap_alloc _ _ _ h2)) wr.heap.size 1 rfl (Blk.new wr [.int .i64 ((k : Int) + 1)] _) HXI.out hlen3 (by simp; omega) ?_; intro v4 w4 hq4 hg4 hl4; have HB4 := Lib.hid (below_push HBX.out HQ.out (Nat.le_refl _) hg4); have HQ4 := Lib.hid hq4; clear hq4 hg4 hl4)
        first
          | (go_roundw
             case rel => (exact ⟨k + 1, hlt, by go_num, by rw [HS.out]; exact HQ4.out, HB4.out⟩)
             case measure => (simp [intOf]; omega))
          | (refine ⟨?_, ?_⟩
             · (exact ⟨k + 1, hlt, by go_num, by rw [HS.out]; exact HQ4.out, HB4.out⟩)
             · (simp [intOf]; omega))
      | false =>
        rw [hb] at hbt
        have HS : Hid (subL bits (k + 1) = subL bits k) := Lib.hid (by simp [subL, hb])
        clear hb
        go_wp2
        first
          | (go_roundw
             case rel => (exact ⟨k + 1, hlt, by go_num, by rw [HS.out]; exact HQ.out, HBX.out⟩)
             case measure => (simp [intOf]; omega))
          | (refine ⟨?_, ?_⟩
             · (exact ⟨k + 1, hlt, by go_num, by rw [HS.out]; exact HQ.out, HBX.out⟩)
             · (simp [intOf]; omega))
    · obtain rfl : k = n := by omega
      go_wp2
      go_ret
      exact ⟨_, rfl, HQ.out, HBX.out⟩
theorem subset19_int (x bits : Int) (hx : 0 ≤ x ∧ x ≤ 16) (w : World) :
    Calls Tryz.prog 28 #[.int .i64 x, .int .u16 bits] w fun e w' => ∃ v, e = .returned v ∧ QRow w.heap.size w' v (subL bits x.toNat) ∧ Below w.heap.size w w' := by
  obtain ⟨n, rfl⟩ := Int.eq_ofNat_of_zero_le hx.1
  exact subset19_any n bits (by omega) w
def inSub (a b : List Int) : Bool := allR a.length fun i => decide (ix a i ∈ b)
theorem inSub_iff {a b : List Int} : inSub a b = true ↔ ∀ x ∈ a, x ∈ b := by
  unfold inSub
  constructor
  · intro h x hx
    obtain ⟨i, hi, rfl⟩ := List.getElem_of_mem hx
    have := allR_get h i hi
    rw [decide_eq_true_eq] at this
    simpa [ix, List.getD, hi] using this
  · intro h
    exact allR_true fun i hi => decide_eq_true (h _ (ix_mem hi))
def In1Rel (a b : List Int) (i : Value) : Prop := ∃ k, k ≤ a.length ∧ i = .int .i64 k ∧ ∀ j, j < k → decide (ix a j ∈ b) = true
def In2Rel (x : Int) (b : List Int) (f i : Value) : Prop := ∃ k, k ≤ b.length ∧ i = .int .i64 k ∧ f = .bool (decide (x ∈ b.take k))
set_option maxHeartbeats 1000000 in
set_option maxRecDepth 100000 in
theorem in19_any (va vb : Value) (a b : List Int) (w : World) (ha : Ints w va a) (hb : Ints w vb b) :
    Calls Tryz.prog 29 #[va, vb] w fun e w' => e = .returned (.bool (inSub a b)) ∧ w = w' := by
  obtain ⟨a1, c1, rfl, -, hl1, -, hc1⟩ := ha.form
  obtain ⟨a2, c2, rfl, -, hl2, -, hc2⟩ := hb.form
  have F1 := Lib.hid ha.2
  have F2 := Lib.hid hb.2
  have HC1 := Lib.hid hc1
  have HC2 := Lib.hid hc2
  clear ha hb hc1 hc2
  go_enter Tryz.func29, Tryz.ntmps29
  go_wp2
  go_loop [12] (fun i => In1Rel a b i) (fun i => a.length - (intOf i).toNat)
  case atStart => exact ⟨0, Nat.zero_le _, rfl, fun j hj => absurd hj (Nat.not_lt_zero _)⟩
  case round =>
    obtain ⟨k, hk, rfl, hall⟩ := hrel
    have HALL := Lib.hid hall
    clear hall
    by_cases hlt : k < a.length
    · obtain ⟨b1, o1, rfl, hb1, hc⟩ := HC1.out (by omega)
      have q1 := hc k hlt
      have f1 := F1.out k
      clear hc
      obtain ⟨x, hx⟩ : ∃ x, ix a k = x := ⟨_, rfl⟩
      have HX := Lib.hid hx
      rw [hx] at q1 f1
      clear hx
      go_wp2
      go_loop [7, 18] (fun f i => In2Rel x b f i) (fun _ i => b.length - (intOf i).toNat)
      case atStart => exact ⟨0, Nat.zero_le _, rfl, by simp⟩
      case round =>
        obtain ⟨j, hj, rfl, rfl⟩ := hrel
        by_cases hltj : j < b.length
        · obtain ⟨b2, o2, rfl, hb2, hc⟩ := HC2.out (by omega)
          have q2 := hc j hltj
          have f2 := F2.out j
          clear hc
          have HT : Hid (decide (x ∈ b.take (j + 1)) = (decide (x ∈ b.take j) || (x == ix b j))) := Lib.hid (by
            rw [take_ix b j hltj, Bool.eq_iff_iff]
            simp)
          cases hB : decide (x ∈ b.take j) with
          | true =>
            have HT2 := Lib.hid (HT.out.trans (by rw [hB]; rfl : _ = true))
            clear hB
            go_wp2
            first
              | (go_round
                 case rel => (exact ⟨j + 1, hltj, by go_num, by rw [HT2.out]⟩)
                 case measure => (simp [intOf]; omega))
              | (refine ⟨?_, ?_⟩
                 · (exact ⟨j + 1, hltj, by go_num, by rw [HT2.out]⟩)
                 · (simp [intOf]; omega))
          | false =>
            have HT2 := Lib.hid (HT.out.trans (by rw [hB]; rfl : _ = (x == ix b j)))
            clear hB
            go_wp2
            first
              | (go_round
                 case rel => (exact ⟨j + 1, hltj, by go_num, by rw [HT2.out]⟩)
                 case measure => (simp [intOf]; omega))
              | (refine ⟨?_, ?_⟩
                 · (exact ⟨j + 1, hltj, by go_num, by rw [HT2.out]⟩)
                 · (simp [intOf]; omega))
        · obtain rfl : j = b.length := by omega
          rw [List.take_length]
          cases hB : decide (x ∈ b) with
          | true =>
            have HN := Lib.hid (fun j (hj : j < k + 1) => (by rcases Nat.lt_succ_iff_lt_or_eq.1 hj with h1 | rfl; exact HALL.out j h1; rw [HX.out]; exact hB : decide (ix a j ∈ b) = true))
            clear hB
            go_wp2
            first
              | (go_round
                 case rel => (exact ⟨k + 1, hlt, by go_num, HN.out⟩)
                 case measure => (simp [intOf]; omega))
              | (refine ⟨?_, ?_⟩
                 · (exact ⟨k + 1, hlt, by go_num, HN.out⟩)
                 · (simp [intOf]; omega))
          | false =>
            have HF : Hid (inSub a b = false) := Lib.hid (allR_false k hlt (by rw [HX.out]; exact hB))
            clear hB
            go_wp2
            go_ret
            exact ⟨ret_bool HF.out.symm, rfl⟩
    · have HF : Hid (inSub a b = true) := Lib.hid (allR_true fun j hj => HALL.out j (by omega))
      go_wp2
      go_ret
      exact ⟨ret_bool HF.out.symm, rfl⟩
theorem inSub_one {x : Int} {l : List Int} : inSub [x] l = decide (x ∈ l) := by
  rw [Bool.eq_iff_iff, inSub_iff, decide_eq_true_eq]
  simp
def few17R (r : GR) : Bool := decide (r.head.length + r.body.length + r.w.length ≤ 36)
def few17M (m : GM) : Bool := decide (m.lits.length + m.w.length ≤ 24)
def few17N (s : ByteArray) : Bool := decide (s.size ≤ 40)
def few17B (p : GP) : Bool := (decide (p.n ≤ 12) && decide (p.names.length ≤ 12) && decide (p.shown.length ≤ 12) && decide (p.rules.length ≤ 16) && decide (p.min.length ≤ 6)) && (allR p.names.length (fun i => few17N (ixS p.names i)) && (allR p.rules.length (fun i => few17R (ixR p.rules i)) && allR p.min.length (fun i => few17M (ixM p.min i))))
structure FwSt (w : World) (c : List Value) (W : World) : Prop where
  box : Blk W w.heap.size c 27
  below : Below w.heap.size w W
theorem FwSt.on {w W W' : World} {c : List Value} (h : FwSt w c W) (hb : Below W.heap.size W W') : FwSt w c W' := ⟨h.box.below hb, bon h.below hb⟩
def FwRel (f : Nat → Bool) (n : Nat) (w : World) (c : List Value) (i : Value) (wx : World) : Prop := ∃ k : Nat, k ≤ n ∧ i = .int .i64 k ∧ (∀ j, j < k → f j = true) ∧ FwSt w c wx
theorem fw_succ {f : Nat → Bool} {k : Nat} (h : ∀ j, j < k → f j = true) (hk : f k = true) : ∀ j, j < k + 1 → f j = true := fun j hj => by
  rcases Nat.lt_succ_iff_lt_or_eq.1 hj with h1 | rfl
  · exact h j h1
  · exact hk
set_option maxHeartbeats 2000000 in
set_option maxRecDepth 100000 in
theorem few17_any (v : Value) (p : GP) (w : World) (h : ProgIs w v p) :
    Calls Tryz.prog 11 #[v] w fun e w' => e = .returned (.bool (few17B p)) ∧ Below w.heap.size w w' := by
  obtain ⟨vn, vs, vr, vm, rfl, hn, hnames, hshown, hrules, hmin⟩ := h
  obtain ⟨a0, c0, rfl, -, hl0, -, hsz, hcn⟩ := hnames.form
  obtain ⟨a3, c3, rfl, -, hl3, -⟩ := hshown.form
  obtain ⟨a1, c1, rfl, -, hl1, -, hcell⟩ := hrules.form
  obtain ⟨a2, c2, rfl, -, hl2, -, hcm⟩ := hmin.form
  unfold InI at hn
  have hal := bal (Below.refl w.heap.size w) (.cells #[.int .i64 p.n, .slice a0 p.names.length c0, .slice a3 p.shown.length c3, .slice a1 p.rules.length c1, .slice a2 p.min.length c2] 27)
  have HCN := Lib.hid hcn
  have HCR := Lib.hid hcell
  have HCM := Lib.hid hcm
  have HSZ := Lib.hid hsz
  clear hnames hshown hrules hmin hcn hcell hcm hsz
  by_cases hfew : (decide (p.n ≤ 12) && decide (p.names.length ≤ 12) && decide (p.shown.length ≤ 12) && decide (p.rules.length ≤ 16) && decide (p.min.length ≤ 6)) = true
  · have HF : Hid (few17B p = (allR p.names.length (fun i => few17N (ixS p.names i)) && (allR p.rules.length (fun i => few17R (ixR p.rules i)) && allR p.min.length (fun i => few17M (ixM p.min i))))) := Lib.hid (by unfold few17B; rw [hfew]; rfl)
    simp only [Bool.and_eq_true, decide_eq_true_eq] at hfew
    obtain ⟨⟨⟨⟨g1, g2⟩, g3⟩, g4⟩, g5⟩ := hfew
    go_enter Tryz.func11, Tryz.ntmps11
    go_upto_region 3 with fail
    have HS0 : Hid (FwSt w [.int .i64 p.n, .slice a0 p.names.length c0, .slice a3 p.shown.length c3, .slice a1 p.rules.length c1, .slice a2 p.min.length c2] (w.alloc (.cells #[.int .i64 p.n, .slice a0 p.names.length c0, .slice a3 p.shown.length c3, .slice a1 p.rules.length c1, .slice a2 p.min.length c2] 27))) := Lib.hid ⟨Blk.new w [.int .i64 p.n, .slice a0 p.names.length c0, .slice a3 p.shown.length c3, .slice a1 p.rules.length c1, .slice a2 p.min.length c2] _, hal⟩
    have kx := HS0.out.box.cell
    clear hal
    generalize w.alloc (.cells #[.int .i64 p.n, .slice a0 p.names.length c0, .slice a3 p.shown.length c3, .slice a1 p.rules.length c1, .slice a2 p.min.length c2] 27) = W at *
    go_wp2
    go_loopw [39] (fun i wx => FwRel (fun i => few17N (ixS p.names i)) p.names.length w [.int .i64 p.n, .slice a0 p.names.length c0, .slice a3 p.shown.length c3, .slice a1 p.rules.length c1, .slice a2 p.min.length c2] i wx) (fun i _ => p.names.length - (intOf i).toNat)
    case atStart => exact ⟨0, by omega, rfl, fun j hj => absurd hj (Nat.not_lt_zero _), HS0.out⟩
    case round =>
      obtain ⟨k, hk, rfl, hall, hb⟩ := hrel
      have HA := Lib.hid hall
      have HS := Lib.hid hb
      clear hall hb kx
      by_cases hlt : k < p.names.length
      · obtain ⟨b, off, rfl, hbl, hc⟩ := HCN.out (by omega)
        have q0 := (bcell HS.out.below _ _ hbl).trans (hc k hlt)
        have hs := HSZ.out k
        clear hc
        by_cases e1 : (ixS p.names k).size ≤ 40
        · have HN := Lib.hid (fw_succ HA.out (show few17N (ixS p.names k) = true from decide_eq_true e1))
          go_wp2
          first
            | (go_roundw
               case rel => (exact ⟨k + 1, by omega, by go_num, HN.out, HS.out⟩)
               case measure => (simp [intOf]; omega))
            | (refine ⟨?_, ?_⟩
               · (exact ⟨k + 1, by omega, by go_num, HN.out, HS.out⟩)
               · (simp [intOf]; omega))
        · have HN : Hid (few17B p = false) := Lib.hid (by rw [HF.out, allR_false k hlt (decide_eq_false e1)]; rfl)
          go_wp2
          go_ret
          exact ⟨ret_bool HN.out.symm, HS.out.below⟩
      · have HN0 : Hid (allR p.names.length (fun i => few17N (ixS p.names i)) = true) := Lib.hid (allR_true (fun j hj => HA.out j (by omega)))
        have kx := HS.out.box.cell
        go_upto_region 9 with fail
        go_wp2
        go_loopw [50] (fun i wx => FwRel (fun i => few17R (ixR p.rules i)) p.rules.length w [.int .i64 p.n, .slice a0 p.names.length c0, .slice a3 p.shown.length c3, .slice a1 p.rules.length c1, .slice a2 p.min.length c2] i wx) (fun i _ => p.rules.length - (intOf i).toNat)
        case atStart => exact ⟨0, by omega, rfl, fun j hj => absurd hj (Nat.not_lt_zero _), HS.out⟩
        case round =>
          obtain ⟨k, hk, rfl, hall, hb⟩ := hrel
          have HA := Lib.hid hall
          have HS2 := Lib.hid hb
          clear hall hb kx
          by_cases hlt : k < p.rules.length
          · obtain ⟨b, off, rfl, hbl, hc⟩ := HCR.out (by omega)
            obtain ⟨vh, vb, vw, ⟨r0, r1, r2, r3, r4, r5⟩, hsl⟩ := hc k hlt
            obtain ⟨x1, y1, rfl, -, g1', -, -⟩ := hsl.head.form
            obtain ⟨x2, y2, rfl, -, g2', -, -⟩ := hsl.body.form
            obtain ⟨x3, y3, rfl, -, g3', -, -⟩ := hsl.wts.form
            have kk := bcell HS2.out.below b
            have q0 := (kk _ hbl).trans r0
            have q1 := (kk _ hbl).trans r1
            have q2 := (kk _ hbl).trans r2
            have q3 := (kk _ hbl).trans r3
            have q4 := (kk _ hbl).trans r4
            have q5 := (kk _ hbl).trans r5
            clear kk r0 r1 r2 r3 r4 r5 hc hsl
            by_cases e1 : (ixR p.rules k).head.length + (ixR p.rules k).body.length + (ixR p.rules k).w.length ≤ 36
            · have HN := Lib.hid (fw_succ HA.out (show few17R (ixR p.rules k) = true from decide_eq_true e1))
              go_wp2
              first
                | (go_roundw
                   case rel => (exact ⟨k + 1, by omega, by go_num, HN.out, HS2.out.on (bal (Below.refl _ _) _)⟩)
                   case measure => (simp [intOf]; omega))
                | (refine ⟨?_, ?_⟩
                   · (exact ⟨k + 1, by omega, by go_num, HN.out, HS2.out.on (bal (Below.refl _ _) _)⟩)
                   · (simp [intOf]; omega))
            · have HN : Hid (few17B p = false) := Lib.hid (by rw [HF.out, HN0.out, allR_false k hlt (decide_eq_false e1)]; rfl)
              go_wp2
              go_ret
              exact ⟨ret_bool HN.out.symm, bal HS2.out.below _⟩
          · have HN1 : Hid (allR p.rules.length (fun i => few17R (ixR p.rules i)) = true) := Lib.hid (allR_true (fun j hj => HA.out j (by omega)))
            have kx := HS2.out.box.cell
            go_upto_region 15 with fail
            go_wp2
            go_loopw [70] (fun i wx => FwRel (fun i => few17M (ixM p.min i)) p.min.length w [.int .i64 p.n, .slice a0 p.names.length c0, .slice a3 p.shown.length c3, .slice a1 p.rules.length c1, .slice a2 p.min.length c2] i wx) (fun i _ => p.min.length - (intOf i).toNat)
            case atStart => exact ⟨0, by omega, rfl, fun j hj => absurd hj (Nat.not_lt_zero _), HS2.out⟩
            case round =>
              obtain ⟨k, hk, rfl, hall, hb⟩ := hrel
              have HA := Lib.hid hall
              have HS3 := Lib.hid hb
              clear hall hb kx
              by_cases hlt : k < p.min.length
              · obtain ⟨b, off, rfl, hbl, hc⟩ := HCM.out (by omega)
                obtain ⟨vl, vw, ⟨r0, r1, r2⟩, hsl⟩ := hc k hlt
                obtain ⟨x1, y1, rfl, -, g1', -, -⟩ := hsl.lits.form
                obtain ⟨x2, y2, rfl, -, g2', -, -⟩ := hsl.wts.form
                have kk := bcell HS3.out.below b
                have q0 := (kk _ hbl).trans r0
                have q1 := (kk _ hbl).trans r1
                have q2 := (kk _ hbl).trans r2
                clear kk r0 r1 r2 hc hsl
                by_cases e1 : (ixM p.min k).lits.length + (ixM p.min k).w.length ≤ 24
                · have HN := Lib.hid (fw_succ HA.out (show few17M (ixM p.min k) = true from decide_eq_true e1))
                  go_wp2
                  first
                    | (go_roundw
                       case rel => (exact ⟨k + 1, by omega, by go_num, HN.out, HS3.out.on (bal (Below.refl _ _) _)⟩)
                       case measure => (simp [intOf]; omega))
                    | (refine ⟨?_, ?_⟩
                       · (exact ⟨k + 1, by omega, by go_num, HN.out, HS3.out.on (bal (Below.refl _ _) _)⟩)
                       · (simp [intOf]; omega))
                · have HN : Hid (few17B p = false) := Lib.hid (by rw [HF.out, HN0.out, HN1.out, allR_false k hlt (decide_eq_false e1)]; rfl)
                  go_wp2
                  go_ret
                  exact ⟨ret_bool HN.out.symm, bal HS3.out.below _⟩
              · have HN : Hid (few17B p = true) := Lib.hid (by rw [HF.out, HN0.out, HN1.out, allR_true (fun j hj => HA.out j (by omega))]; rfl)
                go_wp2
                go_ret
                exact ⟨ret_bool HN.out.symm, HS3.out.below⟩
  · have HF : Hid (few17B p = false) := Lib.hid (by unfold few17B; rw [Bool.eq_false_iff.2 hfew]; rfl)
    simp only [Bool.and_eq_true, decide_eq_true_eq] at hfew
    by_cases g1 : p.n ≤ 12
    · by_cases g2 : p.names.length ≤ 12
      · by_cases g3 : p.shown.length ≤ 12
        · by_cases g4 : p.rules.length ≤ 16
          · have g5 : ¬ p.min.length ≤ 6 := fun h => hfew ⟨⟨⟨⟨g1, g2⟩, g3⟩, g4⟩, h⟩
            clear hfew
            go_enter Tryz.func11, Tryz.ntmps11
            go_wp2
            go_ret
            exact ⟨ret_bool HF.out.symm, hal⟩
          · clear hfew
            go_enter Tryz.func11, Tryz.ntmps11
            go_wp2
            go_ret
            exact ⟨ret_bool HF.out.symm, hal⟩
        · clear hfew
          go_enter Tryz.func11, Tryz.ntmps11
          go_wp2
          go_ret
          exact ⟨ret_bool HF.out.symm, hal⟩
      · clear hfew
        go_enter Tryz.func11, Tryz.ntmps11
        go_wp2
        go_ret
        exact ⟨ret_bool HF.out.symm, hal⟩
    · clear hfew
      go_enter Tryz.func11, Tryz.ntmps11
      go_wp2
      go_ret
      exact ⟨ret_bool HF.out.symm, hal⟩
def itS (n : Int) : ByteArray := ⟨(Lib.itoa n).toArray⟩
def ItO (w : World) (n : Int) : Prop := ∀ W, Below w.heap.size w W → Calls Tryz.prog 61 #[.int .i64 n] W fun e W' => e = .returned (.string (itS n)) ∧ Below W.heap.size W W'
theorem ItO.below {w w' : World} {n : Int} (h : ItO w n) (hb : Below w.heap.size w w') : ItO w' n := fun W hW => h W (bon hb hW)
theorem ItO.small {w : World} {n : Int} (h : 0 ≤ n ∧ n < 100) : ItO w n := fun W _ => by
  obtain ⟨i, rfl⟩ : ∃ i : Nat, n = i := ⟨n.toNat, by omega⟩
  refine (Tryz.strconv_Itoa_small i (by omega) W).mono fun e W' ⟨h1, h2⟩ => ?_
  subst h2
  refine ⟨h1.trans ?_, Below.refl _ _⟩
  unfold itS Lib.itoa
  rw [if_neg (by omega)]
  rfl
def nameX (l : List ByteArray) (a : Int) : ByteArray := if 1 ≤ a ∧ a ≤ (l.length : Int) ∧ ixS l (a - 1).toNat ≠ ⟨#[]⟩ then ixS l (a - 1).toNat else ⟨#[35]⟩ ++ itS a
theorem bytes_nil {s : ByteArray} : s = ⟨#[]⟩ ↔ s.toList = [] := by
  constructor
  · rintro rfl; rw [Lib.toList_data]
  · intro h
    rw [Lib.toList_data] at h
    cases s with
    | mk d => cases d with
      | mk l => simp at h; subst h; rfl
set_option maxHeartbeats 1000000 in
theorem name_any (l : List ByteArray) (vn vs vr vm : Value) (n : Int) (b : Nat) (a : Int) (w : World) (ha : InI a) (hl : Strs w vn l) (hb : Blk w b [.int .i64 n, vn, vs, vr, vm] 27) (hI : ItO w a) (h100 : (itS a).size ≤ 100) :
    Calls Tryz.prog 60 #[.int .i64 a, .pointer (some ⟨b, 0, none⟩)] w fun e w' => e = .returned (.string (nameX l a)) ∧ Below w.heap.size w w' := by
  obtain ⟨an, cn, rfl, -, hl1, hl2, hsz, hat⟩ := hl.form
  have kb := hb.cell
  have hlt := hb.lt
  unfold InI at ha
  have HI := Lib.hid (hI w (Below.refl _ _))
  by_cases h1 : 1 ≤ a
  · by_cases h2 : a ≤ (l.length : Int)
    · obtain ⟨k, rfl⟩ : ∃ k : Nat, a = (k : Int) + 1 := ⟨(a - 1).toNat, by omega⟩
      have hk : k < l.length := by omega
      obtain ⟨bn, off, rfl, hbn, hcn⟩ := hat (by omega)
      have kc := hcn k hk
      have HK : Hid (((k : Int) + 1 - 1).toNat = k) := Lib.hid (by omega)
      by_cases h3 : (ixS l k).toList = []
      · have h3' : (ixS l k).toList.isEmpty = true := by rw [h3]; rfl
        have HN : Hid (nameX l ((k : Int) + 1) = ⟨#[35]⟩ ++ itS ((k : Int) + 1)) := Lib.hid (by unfold nameX; rw [HK.out, if_neg (fun h => h.2.2 (bytes_nil.2 h3))])
        clear hcn hsz hat HK
        go_enter Tryz.func60, Tryz.ntmps60
        go_wp2_with (go_at_call 61; (with_reducible refine (HI.out).mono ?_); rintro e w1 ⟨rfl, hb1⟩)
        go_ret
        exact ⟨by rw [HN.out]; rfl, hb1⟩
      · have h3' : (ixS l k).toList.isEmpty = false := by rw [List.isEmpty_eq_false_iff]; exact h3
        have HN : Hid (nameX l ((k : Int) + 1) = ixS l k) := Lib.hid (by unfold nameX; rw [HK.out, if_pos ⟨h1, h2, fun h => h3 (bytes_nil.1 h)⟩])
        clear hcn hsz hat HK
        go_enter Tryz.func60, Tryz.ntmps60
        go_wp2_with (go_at_call 61; (with_reducible refine (HI.out).mono ?_); rintro e w1 ⟨rfl, hb1⟩)
        go_ret
        exact ⟨by rw [HN.out]; rfl, Below.refl _ _⟩
    · have HN : Hid (nameX l a = ⟨#[35]⟩ ++ itS a) := Lib.hid (by unfold nameX; rw [if_neg (fun h => h2 h.2.1)])
      clear hsz hat
      go_enter Tryz.func60, Tryz.ntmps60
      go_wp2_with (go_at_call 61; (with_reducible refine (HI.out).mono ?_); rintro e w1 ⟨rfl, hb1⟩)
      go_ret
      exact ⟨by rw [HN.out]; rfl, hb1⟩
  · have HN : Hid (nameX l a = ⟨#[35]⟩ ++ itS a) := Lib.hid (by unfold nameX; rw [if_neg (fun h => h1 h.1)])
    clear hsz hat
    go_enter Tryz.func60, Tryz.ntmps60
    go_wp2_with (go_at_call 61; (with_reducible refine (HI.out).mono ?_); rintro e w1 ⟨rfl, hb1⟩)
    go_ret
    exact ⟨by rw [HN.out]; rfl, hb1⟩
def lineX (l : List ByteArray) (y : WY) : List UInt8 := (nameX l y.atom).data.toList ++ ([32, 98, 121, 32] ++ ((itS y.rule).data.toList ++ ([32, 108, 101, 118, 101, 108, 32] ++ ((itS y.level).data.toList ++ [10]))))
def whysT (l : List ByteArray) (ys : List WY) : List UInt8 := ys.flatMap (lineX l)
def atomsT (l : List ByteArray) (as' : List Int) : List UInt8 := as'.flatMap fun a => [32] ++ (nameX l a).data.toList
def restT (l : List ByteArray) (r : List Int) : List UInt8 := if r.length = 0 then [] else [114, 101, 115, 116] ++ (atomsT l r ++ [10])
def textX (l : List ByteArray) (x : XP) : List UInt8 := whysT l x.whys ++ restT l x.rest
theorem whysT_snoc (l : List ByteArray) (a : List WY) (y : WY) : whysT l (a ++ [y]) = whysT l a ++ lineX l y := by simp [whysT]
theorem atomsT_snoc (l : List ByteArray) (a : List Int) (y : Int) : atomsT l (a ++ [y]) = atomsT l a ++ ([32] ++ (nameX l y).data.toList) := by simp [atomsT]
def OkN (w : World) (n : Int) : Prop := ItO w n ∧ (itS n).data.toList.length ≤ 100
theorem dec_small {n : Nat} (h : n < 100) : (Lib.decDigits n).length ≤ 2 := by
  unfold Lib.decDigits
  split
  · simp
  · have : n / 10 < 10 := by omega
    unfold Lib.decDigits
    rw [dif_pos this]
    simp
theorem OkN.small {w : World} {n : Int} (h : 0 ≤ n ∧ n < 100) : OkN w n := ⟨.small h, by
  unfold itS Lib.itoa
  rw [if_neg (by omega)]
  have := dec_small (n := n.toNat) (by omega)
  simp only
  omega⟩
theorem OkN.below {w w' : World} {n : Int} (h : OkN w n) (hb : Below w.heap.size w w') : OkN w' n := ⟨h.1.below hb, h.2⟩
theorem name_len {l : List ByteArray} {a : Int} (hl : ∀ i, (ixS l i).data.toList.length ≤ 40) (ha : (itS a).data.toList.length ≤ 100) : (nameX l a).data.toList.length ≤ 101 := by
  unfold nameX
  split
  · have := hl (a - 1).toNat; omega
  · rw [ByteArray.data_append]
    simp only [Array.toList_append, List.length_append, List.length_cons, List.length_nil]
    omega
theorem flat_len {α : Type} (f : α → List UInt8) (B : Nat) : ∀ (ys : List α), (∀ y ∈ ys, (f y).length ≤ B) → (ys.flatMap f).length ≤ B * ys.length
  | [], _ => by simp
  | y :: ys, h => by
    have a := h y (.head _)
    have b := flat_len f B ys fun z hz => h z (.tail _ hz)
    simp only [List.flatMap_cons, List.length_append, List.length_cons, Nat.mul_add, Nat.mul_one]
    omega
theorem line_data (a b c : ByteArray) : (((((a ++ ⟨#[32, 98, 121, 32]⟩) ++ b) ++ ⟨#[32, 108, 101, 118, 101, 108, 32]⟩) ++ c) ++ ⟨#[10]⟩ : ByteArray).data.toList = a.data.toList ++ ([32, 98, 121, 32] ++ (b.data.toList ++ ([32, 108, 101, 118, 101, 108, 32] ++ (c.data.toList ++ [10])))) := by
  simp [ByteArray.data_append]
abbrev bcT (l : List UInt8) : List Value := Lib.byteCells l
theorem bcT_app (a b : List UInt8) : bcT (a ++ b) = bcT a ++ bcT b := by simp [bcT, Lib.byteCells]
theorem IsB.on {b : Nat} {bs : List Value} {X Y : World} (h : IsB b b bs X) (hb : Below X.heap.size X Y) : IsB b b bs Y := by
  have hg : X.grownBy Y none := ⟨hb.os, hb.tape, hb.output, hb.size, fun i hi _ => hb.block i hi⟩
  have key : ∀ p, BAt b b p bs X → BAt b b p bs Y := fun p ⟨h1, v, h2, h3, h4⟩ =>
    ⟨h1, v, (hb.block b (Array.getElem?_eq_some_iff.1 h2).1).trans h2, h3.kept hg (by cases hv : v.ownBlock <;> simp), h4⟩
  exact h.elim (fun x => .inl (key _ x)) (fun x => .inr (key _ x))
structure StT (w : World) (b : Nat) (pc xc : List Value) (t : List UInt8) (W : World) : Prop where
  bld : IsB b b (bcT t) W
  below : Below w.heap.size w W
  pbx : Blk W w.heap.size pc 27
  xbx : Blk W (w.heap.size + 1) xc 30
  lt : w.heap.size + 1 < b
theorem StT.blt {w W : World} {b : Nat} {pc xc : List Value} {t : List UInt8} (h : StT w b pc xc t W) : b < W.heap.size := h.bld.elim (·.lt) (·.lt)
theorem StT.on {w W W' : World} {b : Nat} {pc xc : List Value} {t : List UInt8} (h : StT w b pc xc t W) (hb : Below W.heap.size W W') : StT w b pc xc t W' :=
  ⟨h.bld.on hb, bon h.below hb, h.pbx.below hb, h.xbx.below hb, h.lt⟩
theorem StT.ws {w W : World} {b : Nat} {pc xc : List Value} {t : List UInt8} (h : StT w b pc xc t W) (s : List UInt8) (S : ByteArray) (hS : S.data.toList = s) (hlen : t.length + s.length ≤ 1000000) :
    Calls Tryz.prog 62 #[.pointer (some ⟨b, 0, none⟩), .string S] W fun e W' => e = .returned (.tuple #[.int .i64 S.size, .nilIface]) ∧ StT w b pc xc (t ++ s) W' := by
  have hsz : S.size = s.length := by rw [← hS, Array.length_toList]; rfl
  have hb := h.blt
  have h3 := h.lt
  refine (ws_any b b (bcT t) S W h.bld (by rw [Lib.byteCells_length, hsz]; omega) (by omega)).mono ?_
  rintro e W' ⟨rfl, h1, h2, -⟩
  have e1 : Lib.strCells S = bcT s := by rw [← hS]; rfl
  rw [e1, ← bcT_app] at h1
  exact ⟨rfl, .inr h1, h.below.trans (h2.mono (by omega)), h.pbx.same (h2.block _ (by omega)), h.xbx.same (h2.block _ (by omega)), h.lt⟩
def txΦ (a b c : ByteArray) (i : Nat) (_ : List Value) (v : Value) (_ _ : Nat) (_ : World) : Prop := (i = 3 ∧ v = .string a) ∨ (i = 7 ∧ v = .string b) ∨ (i = 12 ∧ v = .string c)
theorem runWS (args : Array Value) (w : World) : (callFunc 62 args).run Tryz.prog w = .ok (.enter 62 args) w := by kernel_rfl
def Tx1Rel (w : World) (b : Nat) (pc xc : List Value) (l : List ByteArray) (ys : List WY) (i : Value) (wx : World) : Prop := ∃ k, k ≤ ys.length ∧ i = .int .i64 k ∧ StT w b pc xc (whysT l (ys.take k)) wx
def Tx2Rel (w : World) (b : Nat) (pc xc : List Value) (l : List ByteArray) (t0 : List UInt8) (ys : List Int) (i : Value) (wx : World) : Prop := ∃ k, k ≤ ys.length ∧ i = .int .i64 k ∧ StT w b pc xc (t0 ++ atomsT l (ys.take k)) wx
theorem takeY_succ {l : List WY} {k : Nat} (h : k < l.length) : l.take (k + 1) = l.take k ++ [ixY l k] := by
  rw [List.take_succ_eq_append_getElem h]
  simp [ixY, List.getD_eq_getElem?_getD, List.getElem?_eq_getElem h]
set_option maxHeartbeats 4000000 in
set_option maxRecDepth 100000 in
theorem text_any (v vx : Value) (p : GP) (x : XP) (w : World) (h : ProgIs w v p) (hx : ExplIs w vx x) (hnm : ∀ i, (ixS p.names i).data.toList.length ≤ 40) (hw : ∀ y ∈ x.whys, OkN w y.atom ∧ OkN w y.rule ∧ OkN w y.level) (hr : ∀ a ∈ x.rest, OkN w a) (hwl : x.whys.length ≤ 100) (hrl : x.rest.length ≤ 100) :
    Calls Tryz.prog 18 #[v, vx] w fun e w' => e = .returned (.string ⟨(textX p.names x).toArray⟩) ∧ Below w.heap.size w w' := by
  obtain ⟨vn, vs, vr, vm, rfl, hps⟩ := h
  obtain ⟨vw, ve, rfl, hwh, hre⟩ := hx
  obtain ⟨aw, cw, rfl, -, hwlen, -⟩ := hwh.form
  obtain ⟨ae, ce, rfl, -⟩ := hre.form
  have HN := Lib.hid hps.names
  have HW := Lib.hid hwh
  have HR := Lib.hid hre
  have HOW := Lib.hid hw
  have HOR := Lib.hid hr
  have HNL := Lib.hid hnm
  have HAI : Hid (∀ i, InI (ix x.rest i)) := Lib.hid fun i => hre.2 i
  obtain ⟨T1, hT1⟩ : ∃ t, whysT p.names x.whys = t := ⟨_, rfl⟩
  have hlen1 : T1.length ≤ 40000 := by
    have := flat_len (lineX p.names) 400 x.whys fun y hy => by
      have ha := name_len hnm (hw y hy).1.2
      have hb := (hw y hy).2.1.2
      have hc := (hw y hy).2.2.2
      unfold lineX
      simp only [List.length_append, List.length_cons, List.length_nil]
      omega
    rw [← hT1]; unfold whysT; omega
  have HT1 := Lib.hid hT1
  have HAL := Lib.hid (bal (bal (Below.refl w.heap.size w) (.cells #[.int .i64 p.n, vn, vs, vr, vm] 27)) (.cells #[.slice aw x.whys.length cw, .slice ae x.rest.length ce] 30))
  have HPB := Lib.hid ((Blk.new w [.int .i64 p.n, vn, vs, vr, vm] 27).alloc (.cells #[.slice aw x.whys.length cw, .slice ae x.rest.length ce] 30))
  have HXB := Lib.hid (Blk.newAt (w.alloc (.cells #[.int .i64 p.n, vn, vs, vr, vm] 27)) [.slice aw x.whys.length cw, .slice ae x.rest.length ce] 30 (show w.heap.size + 1 = _ by simp))
  have HSZ : Hid (((w.alloc (.cells #[.int .i64 p.n, vn, vs, vr, vm] 27)).alloc (.cells #[.slice aw x.whys.length cw, .slice ae x.rest.length ce] 30)).heap.size = w.heap.size + 1 + 1) := Lib.hid (by simp)
  clear hps hwh hre hw hr hnm hT1
  go_enter Tryz.func18, Tryz.ntmps18
  go_upto_region 3 with fail
  generalize (w.alloc (.cells #[.int .i64 p.n, vn, vs, vr, vm] 27)).alloc (.cells #[.slice aw x.whys.length cw, .slice ae x.rest.length ce] 30) = w2 at *
  have hz2 : w2.heap.size = w.heap.size + 1 + 1 := HSZ.out
  rw [← hz2]
  have hald := bal (Below.refl w2.heap.size w2) (.cells #[.pointer none, .slice none 0 0] 100)
  have HS0 : Hid (StT w w2.heap.size [.int .i64 p.n, vn, vs, vr, vm] [.slice aw x.whys.length cw, .slice ae x.rest.length ce] [] (w2.alloc (.cells #[.pointer none, .slice none 0 0] 100))) := Lib.hid ⟨.inl ⟨Nat.le_refl _, .slice none 0 0, Blk.new w2 [.pointer none, .slice none 0 0] _, World.ownsRowF_nil _ _ _ _, by simp [Value.ownBlock]⟩, bon HAL.out hald, HPB.out.alloc _, HXB.out.alloc _, by omega⟩
  have kx0 := HS0.out.xbx.cell
  clear hald hz2 HAL HPB HXB
  generalize w2.alloc (.cells #[.pointer none, .slice none 0 0] 100) = w3 at *
  generalize w2.heap.size = b at *
  go_wp2_with fail
  go_loopw [15] (fun i wx => Tx1Rel w b [.int .i64 p.n, vn, vs, vr, vm] [.slice aw x.whys.length cw, .slice ae x.rest.length ce] p.names x.whys i wx) (fun i _ => x.whys.length - (intOf i).toNat)
  case atStart => exact ⟨0, Nat.zero_le _, rfl, HS0.out⟩
  case round =>
    obtain ⟨k, hk, rfl, hst⟩ := hrel
    have HS := Lib.hid hst
    clear hst
    by_cases hlt : k < x.whys.length
    · obtain ⟨y, hy⟩ : ∃ y, ixY x.whys k = y := ⟨_, rfl⟩
      have hym : y ∈ x.whys := by rw [← hy]; exact ixY_mem0 hlt
      obtain ⟨o1, o2, o3⟩ := HOW.out y hym
      have hyi := HW.out.2 y hym
      have HYI := Lib.hid hyi
      obtain ⟨bw, off, rfl, hbw, hc0, hc1, hc2⟩ := (HW.out.below HS.out.below).at hlt
      rw [hy] at hc0 hc1 hc2
      have HTK : Hid (whysT p.names (x.whys.take (k + 1)) = whysT p.names (x.whys.take k) ++ lineX p.names y) := Lib.hid (by rw [takeY_succ hlt, hy, whysT_snoc])
      have HTL : Hid ((whysT p.names (x.whys.take k)).length + (lineX p.names y).length ≤ 40000) := Lib.hid (by
        have e := HTK.out
        have h1 := flat_len (lineX p.names) 400 (x.whys.take (k + 1)) fun z hz => by
          have hzm := List.mem_of_mem_take hz
          have ha := name_len HNL.out (HOW.out z hzm).1.2
          have hb := (HOW.out z hzm).2.1.2
          have hc := (HOW.out z hzm).2.2.2
          unfold lineX
          simp only [List.length_append, List.length_cons, List.length_nil]
          omega
        have h2 : (whysT p.names (x.whys.take (k + 1))).length ≤ 400 * (x.whys.take (k + 1)).length := h1
        rw [e, List.length_append, List.length_take] at h2
        omega)
      have HO1 := Lib.hid o1
      have HO2 := Lib.hid o2
      have HO3 := Lib.hid o3
      clear o1 o2 o3 hy hym
      go_upto_region 6 with fail
      have hal6 := bal (Below.refl wr.heap.size wr) (.cells #[.int .i64 y.atom, .int .i64 y.rule, .int .i64 y.level] 49)
      have HS6 := Lib.hid (HS.out.on hal6)
      have HY6 := Lib.hid (Blk.new wr [.int .i64 y.atom, .int .i64 y.rule, .int .i64 y.level] 49)
      clear hal6 hc0 hc1 hc2 hyi
      generalize wr.alloc (.cells #[.int .i64 y.atom, .int .i64 y.rule, .int .i64 y.level] 49) = W1 at *
      generalize wr.heap.size = yb at *
      have kc : ∀ e : Ext W1, ∀ o, e.world.cell? ⟨yb, o, none⟩ = [Value.int .i64 y.atom, .int .i64 y.rule, .int .i64 y.level][o]? := fun e o => (bcell e.below _ o HY6.out.lt).trans (HY6.out.cell o)
      have hs3 : (nameX p.names y.atom).size ≤ 101 := by rw [← ByteArray.size_data, ← Array.length_toList]; exact name_len HNL.out HO1.out.2
      have hs7 : (itS y.rule).size ≤ 100 := by rw [← ByteArray.size_data, ← Array.length_toList]; exact HO2.out.2
      have hs12 : (itS y.level).size ≤ 100 := by rw [← ByteArray.size_data, ← Array.length_toList]; exact HO3.out.2
      have HLN : Hid (lineX p.names y = (nameX p.names y.atom).data.toList ++ ([32, 98, 121, 32] ++ ((itS y.rule).data.toList ++ ([32, 108, 101, 118, 101, 108, 32] ++ ((itS y.level).data.toList ++ [10]))))) := Lib.hid rfl
      have HB6 : Hid (Below w.heap.size w W1) := Lib.hid HS6.out.below
      have HNA : Hid (∀ W, Below W1.heap.size W1 W → Calls Tryz.prog 60 #[.int .i64 y.atom, .pointer (some ⟨w.heap.size, 0, none⟩)] W fun e W' => e = .returned (.string (nameX p.names y.atom)) ∧ Below W.heap.size W W') := Lib.hid fun W hW =>
        name_any p.names vn vs vr vm p.n w.heap.size y.atom W HYI.out.1 (HN.out.below (bon HB6.out hW)) (HS6.out.pbx.below hW) (HO1.out.1.below (bon HB6.out hW)) (by rw [← ByteArray.size_data, ← Array.length_toList]; exact HO1.out.2)
      have HNR : Hid (∀ W, Below W1.heap.size W1 W → Calls Tryz.prog 61 #[.int .i64 y.rule] W fun e W' => e = .returned (.string (itS y.rule)) ∧ Below W.heap.size W W') := Lib.hid fun W hW => HO2.out.1 W (bon HB6.out hW)
      have HNV : Hid (∀ W, Below W1.heap.size W1 W → Calls Tryz.prog 61 #[.int .i64 y.level] W fun e W' => e = .returned (.string (itS y.level)) ∧ Below W.heap.size W W') := Lib.hid fun W hW => HO3.out.1 W (bon HB6.out hW)
      generalize hg3 : nameX p.names y.atom = s3 at *
      generalize hg7 : itS y.rule = s7 at *
      generalize hg12 : itS y.level = s12 at *
      clear hg3 hg7 hg12
      refine wp_region_tailC [0, 1, 2, 3, 4, 5, 6, 7, 8, 9, 10, 11, 12, 13, 14, 15] 15 (fun _ => True) (txΦ s3 s7 s12) (fun i => i == 3 || i == 7 || i == 12) (by kernel_rfl) (by kernel_rfl) (by kernel_rfl) (by kernel_rfl) (fun _ _ => trivial) (fun _ _ _ _ _ _ _ h _ => h) ?_
      simp only [reorder, List.map_cons, List.map_nil, List.getD_cons_zero, List.getD_cons_succ, reix, atIn, List.map_toArray, List.idxOf_cons, List.idxOf_nil, Nat.reduceBEq, cond_true, cond_false, beq_self_eq_true, Nat.reduceAdd, Option.map, List.take_succ_cons, List.take_zero, List.drop_succ_cons, List.drop_zero]
      iterate 3 (refine walkP_head (by kernel_rfl) rfl rfl rfl (fun K hK => ?_); go_big_quiet_op; refine hK _ ?_; clear hK K)
      refine walkP_mem rfl rfl (fun wa hba _ => ?_) (fun v3 lo hi _ _ g3 => ?_)
      · go_simp
        exact (HNA.out wa hba).mono fun e w2 ⟨h1, h2⟩ => ⟨_, h1, h2, .inl ⟨rfl, rfl⟩⟩
      obtain rfl : v3 = .string s3 := by obtain ⟨_, h⟩ := g3; simpa [txΦ] using h
      simp only [Act.put, List.setIfInBounds_toArray, List.set_cons_succ, List.set_cons_zero]
      iterate 3 (refine walkP_head (by kernel_rfl) rfl rfl rfl (fun K hK => ?_); go_big_quiet_op; refine hK _ ?_; clear hK K)
      refine walkP_mem rfl rfl (fun wa hba _ => ?_) (fun v7 lo hi _ _ g7 => ?_)
      · go_simp
        exact (HNR.out wa hba).mono fun e w2 ⟨h1, h2⟩ => ⟨_, h1, h2, .inr (.inl ⟨rfl, rfl⟩)⟩
      obtain rfl : v7 = .string s7 := by obtain ⟨_, h⟩ := g7; simpa [txΦ] using h
      simp only [Act.put, List.setIfInBounds_toArray, List.set_cons_succ, List.set_cons_zero]
      iterate 4 (refine walkP_head (by kernel_rfl) rfl rfl rfl (fun K hK => ?_); go_big_quiet_op; refine hK _ ?_; clear hK K)
      refine walkP_mem rfl rfl (fun wa hba _ => ?_) (fun v12 lo hi _ _ g12 => ?_)
      · go_simp
        exact (HNV.out wa hba).mono fun e w2 ⟨h1, h2⟩ => ⟨_, h1, h2, .inr (.inr ⟨rfl, rfl⟩)⟩
      obtain rfl : v12 = .string s12 := by obtain ⟨_, h⟩ := g12; simpa [txΦ] using h
      simp only [Act.put, List.setIfInBounds_toArray, List.set_cons_succ, List.set_cons_zero]
      iterate 2 (refine walkP_head (by kernel_rfl) rfl rfl rfl (fun K hK => ?_); go_big_quiet_op; refine hK _ ?_; clear hK K)
      intro wx hbx hF hI hP
      clear hF hI hP
      refine tailC_call rfl (runWS _ wx) ?_
      simp only [List.map_toArray, List.map_cons, List.map_nil, Act.eval, Array.append_empty, List.append_toArray]
      refine ((HS6.out.on hbx).ws (lineX p.names y) _ ((line_data s3 s7 s12).trans HLN.out.symm) (by have := HTL.out; omega)).mono ?_
      rintro e W9 ⟨rfl, hs9⟩
      rw [← HTK.out] at hs9
      refine ⟨_, rfl, trivial, ?_⟩
      simp only [tailC]
      go_wp2_with fail
      first
        | (go_roundw
           case rel => (exact ⟨k + 1, hlt, by go_num, hs9⟩)
           case measure => (simp [intOf]; omega))
        | (refine ⟨?_, ?_⟩
           · (exact ⟨k + 1, hlt, by go_num, hs9⟩)
           · (simp [intOf]; omega))
    · obtain rfl : k = x.whys.length := by omega
      have HSE : Hid (StT w b [.int .i64 p.n, vn, vs, vr, vm] [.slice aw x.whys.length cw, .slice ae x.rest.length ce] T1 wr) := Lib.hid (by have := HS.out; rwa [List.take_length, HT1.out] at this)
      have kx1 := HSE.out.xbx.cell
      clear HS
      by_cases hr0 : x.rest.length = 0
      · have HF : Hid (textX p.names x = T1) := Lib.hid (by unfold textX restT; rw [if_pos hr0, List.append_nil, HT1.out])
        go_wp2_with (go_at_call 63; (with_reducible refine (Tryz.Builder_String_any_k b b _ _ HSE.out.bld (by have := HSE.out.blt; omega)).mono ?_); rintro e w5 ⟨rfl, -, hb5, -⟩)
        go_ret
        exact ⟨by rw [HF.out]; rfl, HSE.out.below.trans (hb5.mono (by have := HSE.out.lt; omega))⟩
      · have hlt0 : 0 < x.rest.length := by omega
        have HF : Hid (textX p.names x = (T1 ++ [114, 101, 115, 116]) ++ (atomsT p.names x.rest ++ [10])) := Lib.hid (by unfold textX restT; rw [if_neg hr0, HT1.out]; simp [List.append_assoc])
        have HTA : Hid (∀ k, (atomsT p.names (x.rest.take k)).length ≤ 10200) := Lib.hid fun k => by
          have h1 := flat_len (fun a => [32] ++ (nameX p.names a).data.toList) 102 (x.rest.take k) fun a ha => by
            have := name_len HNL.out (HOR.out a (List.mem_of_mem_take ha)).2
            simp only [List.length_append, List.length_cons, List.length_nil]
            omega
          have h2 : (atomsT p.names (x.rest.take k)).length ≤ 102 * (x.rest.take k).length := h1
          rw [List.length_take] at h2
          omega
        have HT1L := Lib.hid hlen1
        go_upto_region 10 with (go_at_call 62; (with_reducible refine (HSE.out.ws [114, 101, 115, 116] _ rfl (by have := HT1L.out; simp; omega)).mono ?_); rintro e w5 ⟨rfl, hs5⟩)
        have HS5 := Lib.hid hs5
        have kx5 := hs5.xbx.cell
        clear hs5 kx1
        go_wp2_with fail
        go_loopw [44] (fun i wx => Tx2Rel w b [.int .i64 p.n, vn, vs, vr, vm] [.slice aw x.whys.length cw, .slice ae x.rest.length ce] p.names (T1 ++ [114, 101, 115, 116]) x.rest i wx) (fun i _ => x.rest.length - (intOf i).toNat)
        case atStart => exact ⟨0, Nat.zero_le _, rfl, by have := HS5.out; simpa [atomsT] using this⟩
        case round =>
          obtain ⟨k, hk, rfl, hst⟩ := hrel
          have HS := Lib.hid hst
          clear hst
          by_cases hlt : k < x.rest.length
          · obtain ⟨a, ha⟩ : ∃ a, ix x.rest k = a := ⟨_, rfl⟩
            have ham : a ∈ x.rest := by rw [← ha]; exact ix_mem hlt
            have HOA := Lib.hid (HOR.out a ham)
            have HIA : Hid (InI a) := Lib.hid (by rw [← ha]; exact HAI.out k)
            obtain ⟨br, off, rfl, hbr, hc⟩ := (HR.out.below HS.out.below).at hlt
            rw [ha] at hc
            have HTK : Hid ((T1 ++ [114, 101, 115, 116]) ++ atomsT p.names (x.rest.take (k + 1)) = ((T1 ++ [114, 101, 115, 116]) ++ atomsT p.names (x.rest.take k)) ++ ([32] ++ (nameX p.names a).data.toList)) := Lib.hid (by rw [take_ix _ _ hlt, ha, atomsT_snoc]; simp only [List.append_assoc])
            have hs3 : (nameX p.names a).size ≤ 101 := by rw [← ByteArray.size_data, ← Array.length_toList]; exact name_len HNL.out HOA.out.2
            have HLL : Hid (((T1 ++ [114, 101, 115, 116]) ++ atomsT p.names (x.rest.take k)).length + ([32] ++ (nameX p.names a).data.toList).length ≤ 1000000) := Lib.hid (by
              have h1 := HTA.out k
              have h2 := name_len HNL.out HOA.out.2
              have h3 := HT1L.out
              simp only [List.length_append, List.length_cons, List.length_nil]
              omega)
            have HNA : Hid (∀ W, Below w.heap.size w W → Blk W w.heap.size [.int .i64 p.n, vn, vs, vr, vm] 27 → Calls Tryz.prog 60 #[.int .i64 a, .pointer (some ⟨w.heap.size, 0, none⟩)] W fun e W' => e = .returned (.string (nameX p.names a)) ∧ Below W.heap.size W W') := Lib.hid fun W hW hB =>
              name_any p.names vn vs vr vm p.n w.heap.size a W HIA.out (HN.out.below hW) hB (HOA.out.1.below hW) (by rw [← ByteArray.size_data, ← Array.length_toList]; exact HOA.out.2)
            have HSD : Hid ((⟨#[32]⟩ ++ nameX p.names a : ByteArray).data.toList = [32] ++ (nameX p.names a).data.toList) := Lib.hid (by rw [ByteArray.data_append]; simp)
            clear ha ham
            go_upto_region 13 with fail
            clear hc
            go_wp2_with (first
              | (go_at_call 62; (with_reducible refine (HS14.out.ws _ _ HSD.out HLL.out).mono ?_); rintro e w7 ⟨rfl, hs7⟩)
              | (go_at_call 60; (with_reducible refine (HNA.out _ HS.out.below HS.out.pbx).mono ?_); rintro e w6 ⟨rfl, hb6⟩; have HS14 := Lib.hid (HS.out.on hb6); clear hb6))
            rw [← HTK.out] at hs7
            first
              | (go_roundw
                 case rel => (exact ⟨k + 1, hlt, by go_num, hs7⟩)
                 case measure => (simp [intOf]; omega))
              | (refine ⟨?_, ?_⟩
                 · (exact ⟨k + 1, hlt, by go_num, hs7⟩)
                 · (simp [intOf]; omega))
          · obtain rfl : k = x.rest.length := by omega
            have HSF : Hid (StT w b [.int .i64 p.n, vn, vs, vr, vm] [.slice aw x.whys.length cw, .slice ae x.rest.length ce] ((T1 ++ [114, 101, 115, 116]) ++ atomsT p.names x.rest) wr) := Lib.hid (by have := HS.out; rwa [List.take_length] at this)
            have HLF : Hid (((T1 ++ [114, 101, 115, 116]) ++ atomsT p.names x.rest).length + [(10 : UInt8)].length ≤ 1000000) := Lib.hid (by
              have h1 := HTA.out x.rest.length
              rw [List.take_length] at h1
              have h3 := HT1L.out
              simp only [List.length_append, List.length_cons, List.length_nil]
              omega)
            clear HS
            go_wp2_with (first
              | (go_at_call 63; (with_reducible refine (Tryz.Builder_String_any_k b b _ _ HSG.out.bld (Nat.le_of_lt HSG.out.blt)).mono ?_); rintro e w8 ⟨rfl, -, hb8, -⟩)
              | (go_at_call 62; (with_reducible refine (HSF.out.ws [10] _ rfl HLF.out).mono ?_); rintro e w7 ⟨rfl, hs7⟩; have HSG := Lib.hid hs7; clear hs7))
            go_ret
            have e9 : (T1 ++ 114 :: 101 :: 115 :: 116 :: (atomsT p.names x.rest ++ [10])).toArray = (textX p.names x).toArray := by rw [HF.out]; simp
            exact ⟨(congrArg (fun z : Array UInt8 => Ending.returned (Value.string ⟨z⟩)) e9), HSG.out.below.trans (hb8.mono (by have := HSG.out.lt; omega))⟩
end Go.Proofs.YtfajkmmmmmfhiaaGreatDoor
