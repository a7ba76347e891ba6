/- My texts St3, Sub, Stb1, Rdc6, Rdc7, Stb2, St5, ShF, merged. -/
import Derived.Test.YtjodocheiejkeaaGreatDoorM19
import Derived.Test.YtjodocheiejkeaaGreatDoorM17
import Derived.Test.YtjodocheiejkeaaGreatDoorM16
import Derived.Test.YtjodocheiejkeaaGreatDoorM07
import Derived.Test.YtjodocheiejkeaaGreatDoorM06
import Derived.Test.YtjodocheiejkeaaGreatDoorM05
import Derived.Test.YtjodocheiejkeaaGreatDoorM04
import Derived.Test.YtjodocheiejkeaaGreatDoorM03
import Derived.Test.YtjodocheiejkeaaGreatDoorM02
import Derived.Test.YtjodocheiejkeaaGreatDoorM00
import Derived.Test.YtjodocheiejkeaaGreatDoorProg
import Derived.WalkKit
import Derived.Lib.Hide
import Derived.Deep.QuietTactic
import Derived.BigQuiet
import Derived.WalkSpells
import Derived.Lib.SliceRun
import Derived.MapKept
import Derived.Maps.OwnSet
import Derived.Maps.OwnOps
import Derived.Test.YtjodocheiejkeaaGreatDoorM01
import Derived.Deep.AppendLies
import Derived.Lib.Bytealg
import Derived.Deep.DeepCutAuto
import Derived.Laws.EntriesVeiled
import Derived.Deep.RegionWith
import Derived.Deep.OwnRows
import Derived.RangeFuncNested
import Derived.RangeFuncBound
import Derived.RangeFuncCalls
import Derived.RangeFuncLeaves
import Derived.OwnWalkIn
import Derived.TacticsInMore
import Derived.LoopNIn
import Derived.LoopIn
import Derived.Stop.RegionWithIn
import Derived.Shelf.Abstract
import Derived.Test.YtjodocheiejkeaaGreatDoorM15
import Derived.Test.YtjodocheiejkeaaGreatDoorM14
import Derived.Test.YtjodocheiejkeaaGreatDoorM13
import Derived.Deep.LoopGhost
import Derived.Deep.DrawnRows
import Derived.Test.YtjodocheiejkeaaGreatDoorM11
import Derived.Deep.AppendSrc
import Derived.Test.YtjodocheiejkeaaGreatDoorM09
import Derived.Test.YtjodocheiejkeaaGreatDoorM08
import Derived.Sort.QuietThIn
import Derived.Test.YtjodocheiejkeaaGreatDoorM10
import Derived.Maps.RangeWalk
import Derived.Lib.SlicesCompact
import Derived.Shelf.Sort.Plain
import Derived.Shelf.Slices.CompactI
import Derived.Shelf.Slices.In.SortNone
import Derived.Shelf.Strconv.Itoa3
import Derived.Shelf.Strings.BuilderK
import Derived.Sort.OwnSortedInts
import Derived.RangeFuncBox
import Derived.Maps.OwnIn
import Derived.Lib.RowBridge
import Derived.Test.YtjodocheiejkeaaGreatDoorM12
import Derived.Deep.DeepMust
import Derived.ProofKit
import Derived.OpenShut
import Derived.ChangeArms
import Derived.SizedLaws
import Derived.Test.YtjodocheiejkeaaGreatDoorM18
import Derived.Deep.RegionHeld3
import Derived.Laws.ResultCell
import Derived.Laws.Rows
import Derived.Deep.RegionLaw
import Derived.Sort.CutIn
import Derived.Shelf.SlLaysF

namespace Go.Proofs.YtjodocheiejkeaaGreatDoor
open Go.RowKit
attribute [local go_sem] Oper.semAt_some memUpon
theorem lim_below0 {n : Nat} {w w' : World} (h : Lim n [] w w') : Below n w w' := h.below (fun i hi => absurd hi (by simp))
def MinR (R : List GR) (m : List Int) (rb : Nat) (c : Code) (pre : List (Nat × Value)) (W : World) : Prop :=
  ∃ (pre' : List (Nat × Value)) (k : Nat) (v : Value), c = .ret ∧ pre = pre' ++ [(k, v)] ∧ (∀ y ∈ pre', satR R (sbL m y.1) = false) ∧ satR R (sbL m k) = true ∧ Blk W rb [.bool (decide ((sbL m k).length = m.length))] 4
theorem MinR.own {R : List GR} {m : List Int} {rb B : Nat} (c : Code) : OwnFrom B (MinR R m rb c) := fun pre X Y row hs hg hr => by
  obtain ⟨pre', k, v, h1, h2, h3, h4, h5⟩ := hs
  exact ⟨pre', k, v, h1, h2, h3, h4, blk_own rb _ _ () X Y row h5 hg (fun r e => (hr r e).2)⟩
theorem MinR.is {R : List GR} {m : List Int} {rb : Nat} {c : Code} {pre : List (Nat × Value)} {W : World} (h : MinR R m rb c pre W) {k : Nat} (hk : k < 2 ^ m.length) (hp : pre.map (·.1) = List.range (k + 1)) :
    c = .ret ∧ ∃ b, Blk W rb [.bool b] 4 ∧ MinIs R m b := by
  obtain ⟨pre', q, v, h1, rfl, h3, h4, h5⟩ := h
  rw [List.map_append, List.range_succ] at hp
  obtain ⟨hp1, hp2⟩ := List.append_inj' hp rfl
  obtain rfl : q = k := by simpa using hp2
  refine ⟨h1, _, h5, .inl ⟨q, hk, fun j hj => ?_, h4, rfl⟩⟩
  have : j ∈ pre'.map (·.1) := by rw [hp1]; exact List.mem_range.2 hj
  obtain ⟨y, hy, e⟩ := List.mem_map.1 this
  rw [← e]
  exact h3 y hy
theorem minIs_none {R : List GR} {m : List Int} {xs : List (Nat × Value)} (hp : xs.map (·.1) = List.range (2 ^ m.length)) (h : ∀ y ∈ xs, satR R (sbL m y.1) = false) : MinIs R m false := by
  refine .inr ⟨fun j hj => ?_, rfl⟩
  have : j ∈ xs.map (·.1) := by rw [hp]; exact List.mem_range.2 hj
  obtain ⟨y, hy, e⟩ := List.mem_map.1 this
  rw [← e]
  exact h y hy
set_option maxHeartbeats 4000000 in
set_option maxRecDepth 100000 in
theorem minimal_any (vr vm : Value) (R : List GR) (m : List Int) (n : Int) (w : World) (hR : RulesIs w vr R) (hm : Ints w vm m) (hml : m.length ≤ 12) (hok : ∀ q, q < R.length → BodyV (ixR R q) n) :
    Calls Tryz.prog 71 #[vr, vm] w fun e w' => ∃ b, e = .returned (.bool b) ∧ MinIs R m b ∧ Below w.heap.size w w' := by
  obtain ⟨a1, c1, rfl, -, hl1, -, -⟩ := hR.form
  obtain ⟨a4, c4, rfl, -, hl4, -, -⟩ := hm.form
  have HR := Lib.hid hR
  have HM := Lib.hid hm
  have HOK := Lib.hid hok
  clear hR hm hok
  refine (callsIn_wide (n := 6)).1 ?_
  refine callsIn_of_wp_marks Tryz.func71 rfl trivial ?_ rfl
  simp only [Tryz.ntmps71, List.size_toArray, List.length_cons, List.length_nil, Nat.reduceAdd, Nat.reduceSub, Array.replicate_succ, Array.replicate_zero, List.push_toArray, List.append_toArray, List.nil_append, List.cons_append]
  have bR := ((Blk.new w [.slice a1 R.length c1] 24).alloc (.cells #[.slice a4 m.length c4] 23)).alloc (.cells #[.bool false] 4)
  have bM := (Blk.new2 w (.cells #[.slice a1 R.length c1] 24) [.slice a4 m.length c4] 23).alloc (.cells #[.bool false] 4)
  have bC := Blk.new ((w.alloc (.cells #[.slice a1 R.length c1] 24)).alloc (.cells #[.slice a4 m.length c4] 23)) [.bool false] 4
  have hb0 : Below w.heap.size w (((w.alloc (.cells #[.slice a1 R.length c1] 24)).alloc (.cells #[.slice a4 m.length c4] 23)).alloc (.cells #[.bool false] 4)) := bal (bal (bal (Below.refl _ _) _) _) _
  have BR := Lib.hid bR
  have BM := Lib.hid bM
  have BC := Lib.hid bC
  have HB0 := Lib.hid hb0
  clear bR bM bC hb0
  gi_wp2_with (refine ⟨trivial, ?_⟩; gi_at_call 30; refine (callsIn_wide.2 (subsets_any _ _ _ _)).mono ?_; rintro e w1 ⟨rfl, hb1, hbm1⟩)
  have bR := BR.out.below hb1
  have bM := BM.out.below hb1
  have bC := BC.out.below hb1
  have hbw : Below w.heap.size w w1 := bon HB0.out hb1
  simp only [World.size_alloc] at hbm1 bC
  have hz := hbm1.lt
  clear hb1 BR BM BC HB0
  have HK : ∀ W', Lim w1.heap.size [] w1 W' → Blk W' (w.heap.size + 1 + 1 + 1) [.slice a4 m.length c4] 23 ∧ Ints W' (.slice a4 m.length c4) m := fun W' h => ⟨hbm1.below (lim_below0 h), (HM.out.below hbw).below (lim_below0 h)⟩
  refine wpIn_rangeFunc_ownR rfl (by omega) (gf := 69) (lb := #[.pointer (some ⟨w.heap.size + 1 + 1 + 1, 0, none⟩)]) rfl trivial (enters_of Tryz.func69 (by kernel_rfl) rfl)
    (subs_stops m w1 (w.heap.size + 1 + 1 + 1) a4 c4 [] HK hml 5 (by omega))
    (fun h k => h.trans k) (fun W l o o' hl h hc hw => .of_below (belowK_b (w := w1) (Nat.le_refl _) W l o o' hl h hc hw) (Nat.le_refl _)) (Below.refl _ _) (fun _ => rfl)
    (fun pre W => (∀ y ∈ pre, satR R (sbL m y.1) = false) ∧ Below w1.heap.size w1 W)
    (fun c pre W => MinR R m (w.heap.size + 1 + 1) c pre W ∧ Below w.heap.size w W)
    (OwnFrom.and (ownFrom_pure _ _) (ownFrom_below (Nat.le_refl _) (Nat.le_refl _)))
    (fun c => OwnFrom.and (MinR.own c) (ownFrom_below (Nat.le_refl _) (by omega)))
    ⟨by intro u hu; simp at hu, Below.refl _ _⟩
    (fun x a' W => QRow w1.heap.size W x.2 (sbL m x.1) ∧ a' = { tmps := #[.slice a1 R.length c1, .slice a4 m.length c4, .pointer (some ⟨w.heap.size, 0, none⟩), .pointer (some ⟨w.heap.size + 1, 0, none⟩), .pointer (some ⟨w.heap.size + 1 + 1, 0, none⟩), x.2, .slice a4 m.length c4, .func (.func 69) #[] #[.pointer (some ⟨w.heap.size + 1 + 1 + 1, 0, none⟩)], x.2, undef, undef, undef, undef, undef, undef, undef, undef], defers := [] })
    (fun x a' _ X Y row hs hg hr => ⟨hs.1.ownR hg (fun r e => (hr r e).2), hs.2⟩)
    ?assign ?body ?done ?stop
  case assign =>
    rintro l pre ⟨k, xv⟩ W K ⟨hall, hB⟩ hR hK
    obtain ⟨x1, x2, x3, rfl⟩ := hR.form
    have HRR := Lib.hid hR
    clear hR
    gi_wp2
    exact hK _ _ (KeepsFrom.refl _ _) (Lim.refl _ _ _) ⟨hall, hB⟩ ⟨HRR.out, rfl⟩
  case body =>
    rintro l pre ⟨k, xv⟩ a' W hl ⟨r, hr⟩ ⟨hall, hB⟩ ⟨hq, rfl⟩ hlt
    dsimp only at hq ⊢
    have hle : (sbL m k).length ≤ m.length := sbTo_len m k m.length
    have hqi := hq.ints (by omega)
    obtain ⟨x1, x3, rfl, -⟩ := hqi.form
    have kR := (bR.below hB).cell 0
    have kM := (bM.below hB).cell 0
    have bCW := bC.below hB
    have hBw : Below w.heap.size w W := bon hbw hB
    have HS : Hid (Calls Tryz.prog 100 #[.slice a1 R.length c1, .slice x1 (sbL m k).length x3] W fun e w' => e = .returned (.bool (satR R (sbL m k))) ∧ Below W.heap.size W w') := Lib.hid (satf_any _ _ R (sbL m k) n W (HR.out.below hBw) hqi (by omega) HOK.out)
    have HBX := Lib.hid hB
    have HBW := Lib.hid hBw
    have HALL := Lib.hid hall
    have kM2 : ∀ W', Below W.heap.size W W' → W'.cell? ⟨w.heap.size + 1, 0, none⟩ = some (.slice a4 m.length c4) := fun W' h => ((bM.below hB).below h).cell 0
    have KM2 := Lib.hid kM2
    clear hB hBw hall hqi hq kM2
    cases he : satR R (sbL m k) with
    | false =>
      have HEX : Hid (_ = false) := Lib.hid he
      rw [he] at HS
      clear he
      gi_wp2_with (refine ⟨trivial, ?_⟩; gi_at_call 100; refine (CallsIn.inRound l (callsIn_wide.2 HS.out)).mono ?_; rintro e w2 ⟨rfl, hb2⟩)
      refine ⟨keeps_below hb2, .of_below hb2 HBX.out.size, fun u hu => ?_, bon HBX.out hb2⟩
      rcases List.mem_append.1 hu with h | h
      · exact HALL.out u h
      · obtain rfl := List.mem_singleton.1 h
        exact HEX.out
    | true =>
      have HEX : Hid (_ = true) := Lib.hid he
      rw [he] at HS
      clear he
      by_cases hlen : (sbL m k).length = m.length
      · rw [hlen] at HS ⊢
        have HLEN := Lib.hid hlen
        clear hlen
        gi_wp2_with (refine ⟨trivial, ?_⟩; gi_at_call 100; refine (CallsIn.inRound l (callsIn_wide.2 HS.out)).mono ?_; rintro e w2 ⟨rfl, hb2⟩; have kc := (bCW.below hb2).cell 0; have kf := (bCW.below hb2).free 0; have km := KM2.out _ hb2)
        exact ⟨(keeps_below hb2).trans ((KeepsOthers.setCell _ _ _).from _), ⟨_, k, _, rfl, rfl, HALL.out, HEX.out, by rw [HLEN.out, decide_eq_true rfl]; exact (bCW.below hb2).set 0 _⟩, (bon HBW.out hb2).setCell (p := ⟨w.heap.size + 1 + 1, 0, none⟩) (by simp; omega) _⟩
      · have HLEN := Lib.hid hlen
        have hli : (((sbL m k).length : Int) == (m.length : Int)) = false := beq_eq_false_iff_ne.2 (fun h => hlen (by omega))
        clear hlen
        gi_wp2_with (refine ⟨trivial, ?_⟩; gi_at_call 100; refine (CallsIn.inRound l (callsIn_wide.2 HS.out)).mono ?_; rintro e w2 ⟨rfl, hb2⟩; have kc := (bCW.below hb2).cell 0; have kf := (bCW.below hb2).free 0; have km := KM2.out _ hb2)
        exact ⟨(keeps_below hb2).trans ((KeepsOthers.setCell _ _ _).from _), ⟨_, k, _, rfl, rfl, HALL.out, HEX.out, by rw [decide_eq_false HLEN.out]; exact (bCW.below hb2).set 0 _⟩, (bon HBW.out hb2).setCell (p := ⟨w.heap.size + 1 + 1, 0, none⟩) (by simp; omega) _⟩
  case done =>
    rintro D xs W hD hS ⟨hall, hB⟩ hK
    have bCW := bC.below hB
    have kc := bCW.cell 0
    have kf := bCW.free 0
    have hBw : Below w.heap.size w W := bon hbw hB
    have HMI := Lib.hid (minIs_none hS hall)
    clear hS hall
    gi_wp2
    have hK' := (KeepsOthers.setCell W ⟨w.heap.size + 1 + 1, 0, none⟩ (.bool false)).same D _ hK rfl
    refine ⟨by simp, .inl ⟨_, _, rfl, run_takeDeferred hK', ?_⟩⟩
    have hc5 := cell_kept (World.cell?_setCell_same' W ⟨w.heap.size + 1 + 1, 0, none⟩ (.bool false) (by rw [kc]; rfl)) (grownBy_putObj' _ D (.deferred none)) (fun r e => by cases e; exact ⟨_, hK', rfl⟩)
    refine ⟨.bool false, ?_, false, rfl, HMI.out, (hBw.setCell (p := ⟨w.heap.size + 1 + 1, 0, none⟩) (by simp; omega) _).trans (belowK_b (w := w) (Nat.le_refl _) _ D _ _ (by omega) hK' rfl rfl)⟩
    simp [results, Tryz.f71, go_sem, hc5]
  case stop =>
    rintro D c pre W hD ⟨k, hk, hp⟩ ⟨hm, hB⟩ hK
    obtain ⟨rfl, b, bCW, hmi⟩ := hm.is hk hp
    gi_wp2
    refine ⟨by simp, .inl ⟨_, _, rfl, run_takeDeferred hK, ?_⟩⟩
    have hc5 := cell_kept (bCW.cell 0) (grownBy_putObj' _ D (.deferred none)) (fun r e => by cases e; exact ⟨_, hK, rfl⟩)
    refine ⟨.bool b, ?_, b, rfl, hmi, hB.trans (belowK_b (w := w) (Nat.le_refl _) W D _ _ (by omega) hK rfl rfl)⟩
    simp [results, Tryz.f71, go_sem, hc5]
end Go.Proofs.YtjodocheiejkeaaGreatDoor
namespace Go.Proofs.YtjodocheiejkeaaGreatDoor
open Go.RowKit
def SubRel (n : Int) (w0 : World) (v i : Value) (wx : World) : Prop :=
  ∃ k : Nat, (k : Int) ≤ n ∧ i = .int .i64 ((k : Int) + 1) ∧ ∃ l, QRow w0.heap.size wx v l ∧ l.length ≤ k ∧ (∀ x ∈ l, 1 ≤ x ∧ x ≤ k) ∧ Hid (l.Pairwise (· < ·)) ∧ Below w0.heap.size w0 wx
theorem SubRel.push {k : Nat} {l : List Int} {v : Value} {w0 w1 w4 : World} (hq : QRow w0.heap.size w1 v l) (hb : Below w0.heap.size w0 w1)
    (hg : (w1.alloc (.cells #[.int .i64 ((k : Int) + 1)] 3)).grownBy w4 v.ownBlock) : Below w0.heap.size w0 w4 := by
  have hf : ∀ i, v.ownBlock = some i → w0.heap.size ≤ i := fun i e => by
    rcases hq.2 with ⟨rfl, _⟩ | ⟨g, off, cap, cur, rfl, hbg, _⟩
    · cases e
    · simp only [Value.ownBlock, Option.some.injEq] at e; omega
  have hsz := hg.size
  simp at hsz
  have hbs := hb.size
  have hk : ∀ i, i < w0.heap.size → w4.heap[i]? = w1.heap[i]? := fun i hi => (hg.block i (by simp; omega) (fun e => by have := hf i e.symm; omega)).trans (Below.heap_alloc _ _ _ (by omega))
  exact hb.trans ⟨hg.os, hg.tape, hg.output, by omega, fun i hi => hk i hi⟩
theorem SubRel.mem {k : Nat} {l : List Int} (h : ∀ x ∈ l, 1 ≤ x ∧ x ≤ k) : ∀ x ∈ l ++ [(k : Int) + 1], 1 ≤ x ∧ x ≤ ((k + 1 : Nat) : Int) := fun x hx => by
  rcases List.mem_append.1 hx with h1 | h1
  · have := h x h1; omega
  · rw [List.mem_singleton] at h1; omega
theorem SubRel.sorted {k : Nat} {l : List Int} (h : ∀ x ∈ l, 1 ≤ x ∧ x ≤ k) (hs : Hid (l.Pairwise (· < ·))) : Hid ((l ++ [(k : Int) + 1]).Pairwise (· < ·)) :=
  Lib.hid (List.pairwise_append.2 ⟨hs.out, List.pairwise_singleton _ _, fun x hx y hy => by rw [List.mem_singleton] at hy; have := h x hx; omega⟩)
set_option maxHeartbeats 1000000 in
theorem sEqual_any (v1 v2 : Value) (l1 l2 : List Int) (w : World) (h1 : Ints w v1 l1) (h2 : Ints w v2 l2) :
    Calls Tryz.prog 73 #[v1, v2] w fun e w' => e = .returned (.bool (decide (l1 = l2))) ∧ Below w.heap.size w w' := by
  have i1 := h1
  have i2 := h2
  obtain ⟨a1, c1, rfl, -, hl1, -, hc1⟩ := h1.form
  obtain ⟨a2, c2, rfl, -, hl2, -, hc2⟩ := h2.form
  clear h1 h2
  by_cases hlen : l1.length = l2.length
  · have hb0 : ((l1.length : Int) != (l2.length : Int)) = false := by simp [hlen]
    have HL := Lib.hid hlen
    have F1 := Lib.hid i1.2
    have F2 := Lib.hid i2.2
    clear hlen i1 i2
    go_enter Tryz.func73, Tryz.ntmps73
    go_wp2
    go_loopw [13] (fun i wx => IntsRel l1 l2 w i wx) (fun i _ => l1.length - (intOf i).toNat)
    case atStart => exact ⟨0, by omega, rfl, fun j hj => absurd hj (Nat.not_lt_zero _), Below.refl _ _⟩
    case round =>
      obtain ⟨k, hk, rfl, hall, hb⟩ := hrel
      have HA := Lib.hid hall
      clear hall
      by_cases hlt : k < l1.length
      · obtain ⟨b1, off1, rfl, hbl1, hcc1⟩ := hc1 (by omega)
        obtain ⟨b2, off2, rfl, hbl2, hcc2⟩ := hc2 (by have := HL.out; omega)
        have hlt2 : k < l2.length := by have := HL.out; omega
        have hlr1 : b1 < wr.heap.size := Nat.lt_of_lt_of_le hbl1 hb.size
        have hlr2 : b2 < wr.heap.size := Nat.lt_of_lt_of_le hbl2 hb.size
        have k1 : ∀ e : Ext wr, e.world.cell? ⟨b1, off1 + k, none⟩ = some (.int .i64 (ix l1 k)) := fun e => (bcell e.below _ _ hlr1).trans ((bcell hb _ _ hbl1).trans (hcc1 k hlt))
        have k2 : ∀ e : Ext wr, e.world.cell? ⟨b2, off2 + k, none⟩ = some (.int .i64 (ix l2 k)) := fun e => (bcell e.below _ _ hlr2).trans ((bcell hb _ _ hbl2).trans (hcc2 k hlt2))
        have f1 := F1.out k
        have f2 := F2.out k
        clear hcc1 hcc2 hc1 hc2
        by_cases he : ix l1 k = ix l2 k
        · have HN := Lib.hid (lt_succ_all HA.out he)
          have he' : (ix l1 k != ix l2 k) = false := by simp [he]
          clear he
          go_wp2
          refine wp_region_ext (by kernel_rfl) (by kernel_rfl) ?_
          repeat (go_big_quiet_step (fail))
          refine wpQuiet_nil ?_
          intro _ hw'
          obtain ⟨⟨w9, hb9⟩, rfl⟩ := hw'
          try dsimp only
          go_wp2
          first
            | (go_roundw
               case rel => (exact ⟨k + 1, by omega, by go_num, HN.out, bon hb hb9⟩)
               case measure => (simp [intOf]; omega))
            | (refine ⟨?_, ?_⟩
               · (exact ⟨k + 1, by omega, by go_num, HN.out, bon hb hb9⟩)
               · (simp [intOf]; omega))
        · have HF : Hid (decide (l1 = l2) = false) := Lib.hid (decide_eq_false (fun e => he (by rw [e])))
          have he' : (ix l1 k != ix l2 k) = true := by simp [he]
          clear he
          go_wp2
          refine wp_region_ext (by kernel_rfl) (by kernel_rfl) ?_
          repeat (go_big_quiet_step (fail))
          refine wpQuiet_nil ?_
          intro _ hw'
          obtain ⟨⟨w9, hb9⟩, rfl⟩ := hw'
          try dsimp only
          go_wp2
          go_ret
          exact ⟨ret_bool HF.out.symm, bon hb hb9⟩
      · have HF : Hid (decide (l1 = l2) = true) := Lib.hid (decide_eq_true (eq_of_ix HL.out (fun j hj => HA.out j (by omega))))
        go_wp2
        go_ret
        exact ⟨ret_bool HF.out.symm, hb⟩
  · have HF : Hid (decide (l1 = l2) = false) := Lib.hid (decide_eq_false (fun e => hlen (by rw [e])))
    have hb0 : ((l1.length : Int) != (l2.length : Int)) = true := by simp; omega
    clear hlen i1 i2
    go_enter Tryz.func73, Tryz.ntmps73
    go_wp2
    go_ret
    exact ⟨ret_bool HF.out.symm, Below.refl _ _⟩
set_option maxHeartbeats 1000000 in
theorem idxR_disj (v : Value) (l : List GR) (w : World) (h : RulesIs w v l) (g : Nat → Bool) 
    (hg : ∀ w', Below w.heap.size w w' → ∀ j, j < l.length → ∀ u, RuleIs w' u (ixR l j) → Calls Tryz.prog 68 #[u] w' fun e w'' => e = .returned (.bool (g j)) ∧ Below w'.heap.size w' w'') :
    Calls Tryz.prog 97 #[v, .func (.func 68) #[] #[]] w fun e w' => ∃ r, e = .returned (.int .i64 r) ∧ IxP l.length g r ∧ Below w.heap.size w w' := by
  obtain ⟨a1, c1, rfl, -, hl1, -, hcell⟩ := h.form
  have HG := Lib.hid hg
  clear h hg
  go_enter Tryz.func97, Tryz.ntmps97
  go_wp2
  go_loopw [8] (fun i wx => IxR l.length g w i wx) (fun i _ => l.length - (intOf i).toNat)
  case atStart => exact ⟨0, by omega, rfl, fun j hj => absurd hj (Nat.not_lt_zero _), Below.refl _ _⟩
  case round =>
    obtain ⟨k, hk, rfl, hall, hb⟩ := hrel
    have HA := Lib.hid hall
    clear hall
    by_cases hlt : k < l.length
    · obtain ⟨b, off, rfl, hbl, hc⟩ := hcell (by omega)
      obtain ⟨vh, vb, vw, ⟨k0, k1, k2, k3, k4, k5⟩, hsl⟩ := hc k hlt
      have hbr := hsl.below hb
      have hk0 := (bcell hb _ _ hbl).trans k0
      have hk1 := (bcell hb _ _ hbl).trans k1
      have hk2 := (bcell hb _ _ hbl).trans k2
      have hk3 := (bcell hb _ _ hbl).trans k3
      have hk4 := (bcell hb _ _ hbl).trans k4
      have hk5 := (bcell hb _ _ hbl).trans k5
      have HRU : Hid (RuleIs wr (.agg #[.bool (ixR l k).choice, vh, .bool (ixR l k).sum, .int .i64 (ixR l k).bound, vb, vw]) (ixR l k)) := Lib.hid ⟨vh, vb, vw, rfl, hbr⟩
      clear hc hcell k0 k1 k2 k3 k4 k5 hsl hbr
      cases g1 : g k with
      | true =>
        have HK : Hid (_ = true) := Lib.hid g1
        have HC := Lib.hid (HG.out _ hb k hlt _ HRU.out)
        rw [g1] at HC
        clear g1
        go_wp2_with (go_at_call 68; refine (HC.out).mono ?_; rintro e w1 ⟨rfl, hb1⟩)
        go_ret
        exact ⟨_, rfl, .inr ⟨k, hlt, rfl, HK.out, HA.out⟩, bon hb hb1⟩
      | false =>
        have HN := Lib.hid (lt_succ_all HA.out g1)
        have HC := Lib.hid (HG.out _ hb k hlt _ HRU.out)
        rw [g1] at HC
        clear g1
        go_wp2_with (go_at_call 68; refine (HC.out).mono ?_; rintro e w1 ⟨rfl, hb1⟩)
        first
          | (go_roundw
             case rel => (exact ⟨k + 1, by omega, by go_num, HN.out, bon hb hb1⟩)
             case measure => (simp [intOf]; omega))
          | (refine ⟨?_, ?_⟩
             · (exact ⟨k + 1, by omega, by go_num, HN.out, bon hb hb1⟩)
             · (simp [intOf]; omega))
    · have HN : Hid (∀ j, j < l.length → g j = false) := Lib.hid (fun j hj => HA.out j (by omega))
      go_wp2
      go_ret
      exact ⟨_, rfl, .inl ⟨rfl, HN.out⟩, hb⟩
set_option maxHeartbeats 1000000 in
theorem ctnR_disj (v : Value) (l : List GR) (w : World) (h : RulesIs w v l) (g : Nat → Bool) 
    (hg : ∀ w', Below w.heap.size w w' → ∀ j, j < l.length → ∀ u, RuleIs w' u (ixR l j) → Calls Tryz.prog 68 #[u] w' fun e w'' => e = .returned (.bool (g j)) ∧ Below w'.heap.size w' w'') :
    Calls Tryz.prog 67 #[v, .func (.func 68) #[] #[]] w fun e w' => e = .returned (.bool (anyR l.length g)) ∧ Below w.heap.size w w' := by
  have HI := Lib.hid (idxR_disj v l w h g  hg)
  obtain ⟨a1, c1, rfl, -⟩ := h.form
  clear h hg
  go_enter Tryz.func67, Tryz.ntmps67
  go_wp2_with (go_at_call 97; refine (HI.out).mono ?_; rintro e w1 ⟨r, rfl, hr, hb1⟩; have HR := Lib.hid hr; clear hr)
  go_ret
  exact ⟨ret_bool HR.out.any, hb1⟩
def disjAt (r : GR) : Bool := !r.choice && decide (1 < r.head.length)
set_option maxHeartbeats 1000000 in
theorem disjC_any (v : Value) (r : GR) (w : World) (h : RuleIs w v r) :
    Calls Tryz.prog 68 #[v] w fun e w' => e = .returned (.bool (disjAt r)) ∧ Below w.heap.size w w' := by
  obtain ⟨vh, vb, vw, rfl, hsl⟩ := h
  obtain ⟨a1, c1, rfl, -, hl1, -, -⟩ := hsl.head.form
  have hal := bal (Below.refl w.heap.size w) (.cells #[.bool r.choice, .slice a1 r.head.length c1, .bool r.sum, .int .i64 r.bound, vb, vw] 55)
  have HU : Hid (disjAt r = (!r.choice && decide (1 < r.head.length))) := Lib.hid rfl
  clear hsl
  cases h2 : r.choice with
  | true =>
    rw [h2] at HU hal
    go_enter Tryz.func68, Tryz.ntmps68
    go_wp2
    go_ret
    exact ⟨ret_bool (by rw [HU.out]; rfl), hal⟩
  | false =>
    rw [h2] at HU hal
    by_cases h3 : 1 < r.head.length
    · go_enter Tryz.func68, Tryz.ntmps68
      go_wp2
      go_ret
      exact ⟨ret_bool (by rw [HU.out, decide_eq_true h3]; first | rfl | (simp; omega)), hal⟩
    · go_enter Tryz.func68, Tryz.ntmps68
      go_wp2
      go_ret
      exact ⟨ret_bool (by rw [HU.out, decide_eq_false h3]; first | rfl | (simp; omega)), hal⟩
def disjB (p : GP) : Bool := anyR p.rules.length (fun i => disjAt (ixR p.rules i))
set_option maxHeartbeats 1000000 in
theorem disj_any (v : Value) (p : GP) (w : World) (h : ProgIs w v p) :
    Calls Tryz.prog 29 #[v] w fun e w' => e = .returned (.bool (disjB p)) ∧ Below w.heap.size w w' := by
  obtain ⟨vn, vs, vr, vm, rfl, hps⟩ := h
  obtain ⟨a1, c1, rfl, -, hl1, -⟩ := hps.rules.form
  have hal := bal (Below.refl w.heap.size w) (.cells #[.int .i64 p.n, vn, vs, .slice a1 p.rules.length c1, vm] 27)
  have HR := Lib.hid (hps.rules.below hal)
  have HAL := Lib.hid hal
  clear hps hal
  go_enter Tryz.func29, Tryz.ntmps29
  go_wp2_with (go_at_call 67; (with_reducible refine (ctnR_disj _ p.rules _ HR.out (fun i => disjAt (ixR p.rules i)) (fun w' hb j _ u hu => disjC_any u _ w' hu)).mono ?_); rintro e w1 ⟨rfl, hb1⟩)
  go_ret
  exact ⟨rfl, bon HAL.out hb1⟩
theorem setQ_of {n : Int} {l : List Int} (hs : l.Pairwise (· < ·)) (hr : ∀ x ∈ l, 1 ≤ x ∧ x ≤ n) : setQ n l = true := by
  refine allR_true fun j hj => ?_
  have h1 := hr _ (ix_mem hj)
  unfold setTo
  rw [decide_eq_true h1, Bool.true_and]
  rw [List.pairwise_iff_getElem] at hs
  by_cases h0 : j = 0
  · subst h0; simp
  · have := hs (j - 1) j (by omega) hj (by omega)
    have e1 : ix l (j - 1) = l[j - 1] := by simp [ix, List.getD_eq_getElem?_getD, List.getElem?_eq_getElem (show j - 1 < l.length by omega)]
    have e2 : ix l j = l[j] := by simp [ix, List.getD_eq_getElem?_getD, List.getElem?_eq_getElem hj]
    simp [e1, e2, this]
set_option maxHeartbeats 1000000 in
theorem reduced_any (n : Int) (vn vs vm : Value) (r4 : Option Addr) (n3 c3 : Nat) (mb : Nat) (w : World) :
    Calls Tryz.prog 99 #[.agg #[.int .i64 n, vn, vs, (.slice r4 n3 c3), vm], .func (.func 118) #[] #[.pointer (some ⟨mb, 0, none⟩)]] w fun e w' => e = .returned (.func (.func 145) #[] #[.pointer (some ⟨w.heap.size, 0, none⟩), .pointer (some ⟨w.heap.size + 1, 0, none⟩)]) ∧
      Below w.heap.size w w' ∧ Blk w' w.heap.size [.int .i64 n, vn, vs, (.slice r4 n3 c3), vm] 27 ∧ Blk w' (w.heap.size + 1) [.func (.func 118) #[] #[.pointer (some ⟨mb, 0, none⟩)]] 77 := by
  have h1 := Blk.new w [.int .i64 n, vn, vs, (.slice r4 n3 c3), vm] 27
  have hb : Below w.heap.size w ((w.alloc (.cells #[.int .i64 n, vn, vs, (.slice r4 n3 c3), vm] 27)).alloc (.cells #[.func (.func 118) #[] #[.pointer (some ⟨mb, 0, none⟩)]] 77)) := bal (bal (Below.refl _ _) _) _
  have h2 : Blk ((w.alloc (.cells #[.int .i64 n, vn, vs, (.slice r4 n3 c3), vm] 27)).alloc (.cells #[.func (.func 118) #[] #[.pointer (some ⟨mb, 0, none⟩)]] 77)) w.heap.size [.int .i64 n, vn, vs, (.slice r4 n3 c3), vm] 27 := h1.alloc _
  have h3 := Blk.new2 w (.cells #[.int .i64 n, vn, vs, (.slice r4 n3 c3), vm] 27) [.func (.func 118) #[] #[.pointer (some ⟨mb, 0, none⟩)]] 77
  clear h1
  have H2 := Lib.hid h2
  have H3 := Lib.hid h3
  have HB := Lib.hid hb
  clear h2 h3 hb
  go_enter Tryz.func99, Tryz.ntmps99
  go_wp2
  go_ret
  exact ⟨rfl, HB.out, H2.out, H3.out⟩
section
variable {B : Nat} {w w' : World}
theorem QRow.ownT {v : Value} {l : List Int} {row : Option Nat} (h : QRow B w v l) (hg : w.grownBy w' row) (hr : ∀ r, row = some r → ∃ o : Obj, w.heap[r]? = some o ∧ o.isCells = false) : QRow B w' v l := by
  rcases h.2 with ⟨rfl, rfl⟩ | ⟨g, off, cap, cur, rfl, hb, hc, r⟩
  · exact QRow.nil _ _
  · refine h.kept fun i _ hi e => hg.block i hi (fun e2 => ?_)
    simp only [Value.ownBlock, Option.some.injEq] at e
    subst e
    obtain ⟨o, ho, hf⟩ := hr g e2.symm
    rw [hc] at ho
    cases ho
    cases hf
theorem Blk.ownT {b : Nat} {c : List Value} {t : TypeId} {row : Option Nat} (h : Blk w b c t) (hg : w.grownBy w' row) (hr : ∀ r, row = some r → ∃ o : Obj, w.heap[r]? = some o ∧ o.isCells = false) : Blk w' b c t :=
  h.same (hg.block b h.lt (fun e2 => by
    obtain ⟨o, ho, hf⟩ := hr b e2.symm
    rw [show w.heap[b]? = _ from h] at ho
    cases ho
    cases hf))
theorem Mine.ownT {v : Value} {L : List RQ} {row : Option Nat} (h : Mine B v L w) (hg : w.grownBy w' row) (hr : ∀ r, row = some r → ∃ o : Obj, w.heap[r]? = some o ∧ o.isCells = false) : Mine B v L w' := by
  refine ⟨h.row.kept hg ?_, fun q hq => let ⟨h1, h2, h3, h4⟩ := h.each q hq; ⟨h1.ownT hg hr, h2.ownT hg hr, h3.ownT hg hr, h4⟩⟩
  rcases h.row.2 with ⟨e, _⟩ | ⟨g, cap, cur, e, _, hgg, _⟩
  · exact .inl (by rw [e]; rfl)
  · refine .inr (fun e2 => ?_)
    rw [e] at e2
    simp only [Value.ownBlock] at e2
    obtain ⟨o, ho, hf⟩ := hr g e2.symm
    rw [hgg] at ho
    cases ho
    cases hf
theorem RedR.ownT {q : RQ} {row : Option Nat} (h : RedR B q w) (hg : w.grownBy w' row) (hr : ∀ r, row = some r → ∃ o : Obj, w.heap[r]? = some o ∧ o.isCells = false) : RedR B q w' :=
  ⟨h.1, h.2.1.ownT hg hr, h.2.2.1.ownT hg hr, h.2.2.2.1.ownT hg hr, h.2.2.2.2⟩
theorem RedR.below {q : RQ} (h : RedR B q w) (hb : Below w.heap.size w w') : RedR B q w' :=
  ⟨h.1, h.2.1.below hb, h.2.2.1.below hb, h.2.2.2.1.below hb, h.2.2.2.2⟩
end
def RdI (rb B N : Nat) (w : World) (pre : List RQ) (W : World) : Prop :=
  ∃ a n c, Blk W rb [.slice a n c] 24 ∧ Mine B (.slice a n c) pre W ∧ Below N w W ∧ B ≤ W.heap.size
theorem RdI.own {rb B N Z : Nat} {w : World} (hN : N ≤ w.heap.size) (hZ : N ≤ Z) : OwnFrom Z (RdI rb B N w) := fun pre X Y row h hg hr => by
  obtain ⟨a, n, c, h1, h2, h3, h4⟩ := h
  have hr' := fun r e => (hr r e).2
  exact ⟨a, n, c, h1.ownT hg hr', h2.ownT hg hr', (ownFrom_below (β := Unit) hN hZ) () X Y row h3 hg hr, Nat.le_trans h4 hg.size⟩
theorem red_push {rb B N Z : Nat} {w W w1 : World} {a : Option Addr} {n c : Nat} {pre : List RQ} {q : RQ} {tmp : Obj} {v' : Value} (hrb : rb < B) (hB : B ≤ W.heap.size) (hN : N ≤ rb) (_hW : N ≤ w.heap.size)
    (hb : Blk W rb [.slice a n c] 24) (hm : Mine B (.slice a n c) pre W) (hw : Below N w W) (hq : RedR B q W)
    (hown : w1.ownsRow B 55 6 v' (pre.length + 1) (pre.flatMap cells6 ++ cells6 q)) (hg : (W.alloc tmp).grownBy w1 (Value.slice a n c).ownBlock)
    (hat : v'.ownBlock = (Value.slice a n c).ownBlock ∨ v'.ownBlock = some (W.alloc tmp).heap.size) :
    Blk w1 rb [.slice a n c] 24 ∧ (KeepsFrom Z W (w1.setCell ⟨rb, 0, none⟩ v') ∧ RKp B rb W (w1.setCell ⟨rb, 0, none⟩ v') ∧ RdI rb B N w (pre ++ [q]) (w1.setCell ⟨rb, 0, none⟩ v')) := by
  have hz : W.heap.size ≤ w1.heap.size := by have := hg.size; simp at this; omega
  have hrow : ∀ g, (Value.slice a n c).ownBlock = some g → B ≤ g ∧ ∃ o : Obj, W.heap[g]? = some o ∧ o.isCells = true := fun g e => by
    rcases hm.row.2 with ⟨e1, _⟩ | ⟨g', cap, cur, e1, hb', hgg, _⟩
    · rw [e1] at e; cases e
    · rw [e1] at e
      simp only [Value.ownBlock, Option.some.injEq] at e
      subst e
      exact ⟨hb', _, hgg, rfl⟩
  have hkeep : ∀ i, i < W.heap.size → (Value.slice a n c).ownBlock ≠ some i → w1.heap[i]? = W.heap[i]? := fun i hi hne =>
    (hg.block i (by simp; omega) (fun e => hne e.symm)).trans (Below.heap_alloc _ _ _ hi)
  have hb1 : Blk w1 rb [.slice a n c] 24 := hb.same (hkeep rb hb.lt (fun e => by have := (hrow _ e).1; omega))
  obtain ⟨g, cap, rfl⟩ := ownsRow_succ hown
  have hglt : g < w1.heap.size ∧ B ≤ g := by
    rcases hown.2 with ⟨e, _⟩ | ⟨g', cap', cur, e, hb', hgg, _⟩
    · cases e
    · simp only [Value.slice.injEq, Option.some.injEq, Addr.mk.injEq, and_true] at e
      obtain ⟨rfl, -⟩ := e
      exact ⟨(Array.getElem?_eq_some_iff.1 hgg).1, hb'⟩
  have hmp := (hm.below (bal (Below.refl W.heap.size W) tmp)).push (q := q) (w' := w1) (g := g) (cap := cap) ⟨hq.2.1.below (bal (Below.refl _ _) _), hq.2.2.1.below (bal (Below.refl _ _) _), hq.2.2.2.1.below (bal (Below.refl _ _) _), hq.2.2.2.2⟩ hown hg
  have hset : ∀ i, i ≠ rb → (w1.setCell ⟨rb, 0, none⟩ (.slice (some ⟨g, 0, none⟩) (pre.length + 1) cap)).heap[i]? = w1.heap[i]? := fun i hi => Below.heap_setCell _ _ _ _ hi
  have hsz : (w1.setCell ⟨rb, 0, none⟩ (.slice (some ⟨g, 0, none⟩) (pre.length + 1) cap)).heap.size = w1.heap.size := by simp [World.setCell]
  have hb3 : Blk (w1.setCell ⟨rb, 0, none⟩ (.slice (some ⟨g, 0, none⟩) (pre.length + 1) cap)) rb [.slice (some ⟨g, 0, none⟩) (pre.length + 1) cap] 24 := hb1.set 0 _
  have hlim : Lim B [rb] W (w1.setCell ⟨rb, 0, none⟩ (.slice (some ⟨g, 0, none⟩) (pre.length + 1) cap)) :=
    ⟨hg.os, hg.tape, hg.output, by rw [hsz]; exact hz, fun i hi hs => (hset i (by simpa using hs)).trans (hkeep i (by omega) (fun e => by have := (hrow _ e).1; omega))⟩
  refine ⟨hb1, (((KeepsOthers.alloc W tmp).trans (KeepsOthers.of_grownBy hg fun j o ej hj => ?_)).trans (KeepsOthers.setCell _ _ _)).from _, ⟨hlim, ?_, ?_⟩, _, _, _, hb3, hmp.setCell 0 _ hrb, ?_, by rw [hsz]; omega⟩
  · obtain ⟨_, o2, ho2, hc2⟩ := hrow j ej
    rw [Below.heap_alloc _ _ _ (Array.getElem?_eq_some_iff.1 ho2).1, ho2] at hj
    cases hj; exact hc2
  · intro _ g2 hg2
    unfold rowOf at hg2
    rw [hb3.cell 0] at hg2
    simp only [List.getElem?_cons_zero, Option.bind_some, Value.ownBlock, Option.some.injEq] at hg2
    subst hg2
    rw [hsz]; exact hglt.1
  · intro i o hi ho hne hrw
    have hilt := (Array.getElem?_eq_some_iff.1 hi).1
    have hrw' : (Value.slice a n c).ownBlock ≠ some i := by
      unfold rowOf at hrw
      rw [hb.cell 0] at hrw
      simpa using hrw
    refine ⟨(hset i hne).trans ((hkeep i hilt hrw').trans hi), fun e => ?_⟩
    unfold rowOf at e
    rw [hb3.cell 0] at e
    simp only [List.getElem?_cons_zero, Option.bind_some] at e
    rcases hat with h | h
    · exact hrw' (h.symm.trans e)
    · rw [e] at h
      simp only [World.size_alloc, Option.some.injEq] at h
      omega
  · exact hw.trans ⟨hg.os, hg.tape, hg.output, by rw [hsz]; exact hz, fun i hi => (hset i (by omega)).trans (hkeep i (by have := hw.size; omega) (fun e => by have := (hrow _ e).1; omega))⟩
theorem redL_mem {p : GP} {m : List Int} : ∀ k, k ≤ p.rules.length → ∀ x ∈ redTo p m k, ∃ i y, i < p.rules.length ∧ redB m (ixR p.rules i) = some y ∧ x.body = y.body ∧ x.w = y.w ∧ (x.head = (ixR p.rules i).head ∨ x.head.length = 1)
  | 0, _, x, hx => by simp [redTo] at hx
  | k + 1, hk, x, hx => by
    cases hr : redB m (ixR p.rules k) with
    | none => rw [redTo_none hr] at hx; exact redL_mem k (by omega) x hx
    | some y =>
      cases hc : (ixR p.rules k).choice with
      | false =>
        rw [redTo_plain hr hc] at hx
        rcases List.mem_append.1 hx with hx | hx
        · exact redL_mem k (by omega) x hx
        · obtain rfl := List.mem_singleton.1 hx
          exact ⟨k, y, by omega, hr, rfl, rfl, .inl rfl⟩
      | true =>
        rw [redTo_choice hr hc] at hx
        rcases List.mem_append.1 hx with hx | hx
        · exact redL_mem k (by omega) x hx
        · unfold redCh at hx
          obtain ⟨a, -, rfl⟩ := List.mem_map.1 hx
          exact ⟨k, y, by omega, hr, rfl, rfl, .inr rfl⟩
attribute [local go_sem] Oper.semAt_some memUpon
def rdΦ (m : List Int) (vp : List Value) : Nat → List Value → Value → Nat → Nat → World → Prop
  | 2, _, v, _, _, w => ∃ mb, v = .func (.func 118) #[] #[.pointer (some ⟨mb, 0, none⟩)] ∧ InM w mb m
  | _, args, v, _, _, w => ∃ pb fb mb, v = .func (.func 145) #[] #[.pointer (some ⟨pb, 0, none⟩), .pointer (some ⟨fb, 0, none⟩)] ∧ Blk w pb vp 27 ∧
      Blk w fb [.func (.func 118) #[] #[.pointer (some ⟨mb, 0, none⟩)]] 77 ∧ args[2]? = some (.func (.func 118) #[] #[.pointer (some ⟨mb, 0, none⟩)])
theorem rdΦ_later (m : List Int) (vp : List Value) : ∀ i args v lo hi w w', rdΦ m vp i args v lo hi w → Below w.heap.size w w' → rdΦ m vp i args v lo hi w' := by
  intro i args v lo hi w w' h hb
  unfold rdΦ at *
  split at h
  · obtain ⟨mb, e, h⟩ := h; exact ⟨mb, e, h.below hb⟩
  · obtain ⟨pb, fb, mb, e, h1, h2, h3⟩ := h; exact ⟨pb, fb, mb, e, h1.below hb, h2.below hb, h3⟩
theorem red_small {w : World} {v : Value} {p : GP} {m : List Int} (_hP : ProgIs w v p) (hv : validE p = 0) : (redL p m).length * 96 + 96 ≤ 140737488351232 ∧ ∀ x ∈ redL p m, x.head.length * 8 ≤ 140737488351232 ∧ x.body.length * 8 ≤ 140737488351232 ∧ x.w.length * 8 ≤ 140737488351232 := by
  have hV := validP hv
  have hn := hV.n
  have hr := hV.rules
  have hh : ∀ i, i < p.rules.length → (ixR p.rules i).head.length ≤ 8002 := fun i hi => by
    have := lits_le (increasing_ordered (hV.head i hi)) hn.1
    omega
  have hb : ∀ i, i < p.rules.length → (ixR p.rules i).body.length ≤ 8002 := fun i hi => by
    have := lits_le (hV.body i hi) hn.1
    omega
  refine ⟨?_, fun x hx => ?_⟩
  · have h1 := redTo_len (m := m) hh p.rules.length (Nat.le_refl _)
    have h2 : p.rules.length * (8002 + 1) ≤ 40000 * 8003 := Nat.mul_le_mul_right _ hr
    unfold redL
    omega
  · obtain ⟨i, y, hi, hy, e1, e2, e3⟩ := redL_mem _ (Nat.le_refl _) x hx
    have h1 := red_len hy
    have h2 := hb i hi
    have h3 := hh i hi
    rw [e1, e2]
    rcases e3 with e3 | e3
    · rw [e3]; omega
    · omega
set_option maxHeartbeats 4000000 in
set_option maxRecDepth 100000 in
theorem reduct_any (v vmm : Value) (p : GP) (m : List Int) (w : World) (h : ProgIs w v p) (hm : Ints w vmm m) (hv : validE p = 0) (hs : setQ p.n m = true) (hml : m.length ≤ 1000000000) :
    Calls Tryz.prog 70 #[v, vmm] w fun e w' => ∃ vr, e = .returned (.tuple #[vr, .int .i64 0]) ∧ RulesIs w' vr (redL p m) ∧ Below w.heap.size w w' := by
  have h0 := h
  have HSM := Lib.hid (red_small (m := m) h hv)
  obtain ⟨vn, vs, vr, vm, rfl, hps⟩ := h
  obtain ⟨a1, c1, rfl, -, hl1, -, -⟩ := hps.rules.form
  obtain ⟨a4, c4, rfl, -, hl4, -, -⟩ := hm.form
  have HC : Hid (checkE p m = 0) := Lib.hid (by unfold checkE; rw [if_neg (by simp [hv]), hs]; rfl)
  have HV := Lib.hid hv
  have hal := bal (Below.refl w.heap.size w) (.cells #[.int .i64 p.n, vn, vs, .slice a1 p.rules.length c1, vm] 27)
  have HP := Lib.hid (h0.below hal)
  have HP0 := Lib.hid h0
  have HM0 := Lib.hid hm
  have HM := Lib.hid (hm.below hal)
  have HAL := Lib.hid hal
  have HBX := Lib.hid (Blk.new w [.int .i64 p.n, vn, vs, .slice a1 p.rules.length c1, vm] 27)
  clear hps h0 hal hm hv hs
  refine (callsIn_wide (n := 6)).1 ?_
  refine callsIn_of_wp_marks Tryz.func70 rfl trivial ?_ rfl
  simp only [Tryz.ntmps70, List.size_toArray, List.length_cons, List.length_nil, Nat.reduceAdd, Nat.reduceSub, Array.replicate_succ, Array.replicate_zero, List.push_toArray, List.append_toArray, List.nil_append, List.cons_append]
  gi_upto_region 5 with (refine ⟨trivial, ?_⟩; gi_at_call 98; refine (callsIn_wide.2 (rcheck_any _ _ p m _ HP.out HM.out)).mono ?_; rintro e w1 ⟨e1, hb1⟩; rw [HC.out] at e1; subst e1)
  have HB1 := Lib.hid (bon HAL.out hb1)
  have HB0 := Lib.hid (bal HB1.out (.cells #[.slice none 0 0] 24))
  have BR := Lib.hid (Blk.new w1 [.slice none 0 0] 24)
  have bI := (HBX.out.below hb1).below (bal (Below.refl w1.heap.size w1) (.cells #[.slice none 0 0] 24))
  have hz1 := HB1.out.size
  have hzz : w1.heap.size < (w1.alloc (.cells #[.slice none 0 0] 24)).heap.size := by simp
  clear hb1
  generalize w1.alloc (.cells #[.slice none 0 0] 24) = W1 at *
  have hdr : Below W1.heap.size W1 W1.drew := (Below.refl _ _).drew
  have HDR := Lib.hid hdr
  have HM1 := Lib.hid (HM0.out.below (bon HB0.out hdr))
  have kI := bI.cell
  have BI := Lib.hid bI
  clear bI hdr
  gi_cut [18] from 15 (fun s18 wx => ∃ pb fb mb, s18 = .func (.func 145) #[] #[.pointer (some ⟨pb, 0, none⟩), .pointer (some ⟨fb, 0, none⟩)] ∧ RedSt w wx m pb fb mb w1.heap.size [.int .i64 p.n, vn, vs, .slice a1 p.rules.length c1, vm] ∧ Below W1.heap.size W1 wx)
  case first =>
    have kc : ∀ e : Ext W1, ∀ o, e.world.cell? ⟨w.heap.size, o, none⟩ = [Value.int .i64 p.n, vn, vs, .slice a1 p.rules.length c1, vm][o]? := fun e o => (bcell e.below _ o BI.out.lt).trans (BI.out.cell o)
    refine wpIn_wide.2 ?_
    refine wp_region_perm' (rdΦ m [.int .i64 p.n, vn, vs, .slice a1 p.rules.length c1, vm]) (fun i => i == 2 || i == 3) (by kernel_rfl) (by kernel_rfl) (by kernel_rfl) (rdΦ_later _ _) ?_
    iterate 2 (refine walkP_calm rfl rfl rfl (fun K hK => ?_); go_big_quiet_op; refine hK _ ?_; clear hK K)
    refine walkP_mem rfl rfl (fun wa hba hFa => ?_) (fun v2 lo2 hi2 l2 g2 h2 => ?_)
    · go_simp
      refine (member_any _ m _ (HM0.out.below (bon HB0.out hba)) hml).mono ?_
      rintro e w2 ⟨mb, rfl, hin, hb⟩
      exact ⟨_, rfl, hb, mb, rfl, hin⟩
    obtain ⟨_, mb, rfl, -⟩ := h2
    simp only [Act.put, List.setIfInBounds_toArray, List.set_cons_succ, List.set_cons_zero]
    refine walkP_mem rfl rfl (fun wa hba hFa => ?_) (fun v3 lo3 hi3 l3 g3 h3 => ?_)
    · go_simp
      refine (reduced_any _ _ _ _ _ _ _ mb _).mono ?_
      rintro e w3 ⟨rfl, hb3, hp3, hf3⟩
      exact ⟨_, rfl, hb3, _, _, mb, rfl, hp3, hf3, rfl⟩
    obtain ⟨_, pb, fb, mb', rfl, -, -, hmb⟩ := h3
    obtain rfl : mb = mb' := by have h9 : some (Value.func (.func 118) #[] #[.pointer (some ⟨mb, 0, none⟩)]) = some (Value.func (.func 118) #[] #[.pointer (some ⟨mb', 0, none⟩)]) := hmb; simpa using h9
    simp only [Act.put, List.setIfInBounds_toArray, List.set_cons_succ, List.set_cons_zero]
    intro wx hbx hF hI hP
    have f3 := hF _ (.head _)
    have f2 := hF _ (.tail _ (.head _))
    obtain ⟨pb3, fb3, mb3, e3, hp3, hf3, e3'⟩ := f3
    obtain rfl : mb = mb3 := by have h9 : some (Value.func (.func 118) #[] #[.pointer (some ⟨mb, 0, none⟩)]) = some (Value.func (.func 118) #[] #[.pointer (some ⟨mb3, 0, none⟩)]) := e3'; simpa using h9
    obtain ⟨_, e2, hin⟩ := f2
    have HST : Hid (RedSt w wx m pb fb mb w1.heap.size [.int .i64 p.n, vn, vs, .slice a1 p.rules.length c1, vm]) := Lib.hid (by
      simp only [Value.func.injEq, true_and, Array.mk.injEq, List.cons.injEq, Value.pointer.injEq, Option.some.injEq, Addr.mk.injEq, and_true] at e3 e2
      obtain ⟨rfl, rfl⟩ := e3
      subst e2
      exact ⟨bon HB0.out hbx, hp3, hf3, hin, BR.out.below hbx, by omega⟩)
    have HBX2 := Lib.hid hbx
    clear hF hI hP hin hp3 hf3 e3 e2 e3' hbx kc kI
    gi_wp2_with fail
    gi_meet
    case rel => exact ⟨_, _, _, rfl, HST.out, HBX2.out⟩
  case rest =>
    obtain ⟨pb, fb, mb, rfl, hst, hbc⟩ := hcut
    have HST := Lib.hid hst
    have hzc := hbc.size
    have hBw : Below w.heap.size w wc := bon HB0.out hbc
    clear kI hst hbc HDR HM1 BI
    have hstop := reduced_stops p m w wc vn vs (.slice a1 p.rules.length c1) vm HP0.out w1.heap.size pb fb mb HST.out HV.out 5 (by omega)
    gi_wp2_with fail
    refine wpIn_rangeFunc_ownR rfl (by omega) (gf := 145) (lb := #[.pointer (some ⟨pb, 0, none⟩), .pointer (some ⟨fb, 0, none⟩)]) rfl trivial (enters_of Tryz.func145 (by kernel_rfl) rfl)
      hstop (fun h k => h.trans k) (fun W l o o' hl h hc hw => ⟨.of_below (belowK_b (w := wc) (Nat.le_refl _) W l o o' hl h hc hw) (Nat.le_refl _), CK.put h hc (by omega)⟩) (Below.refl _ _) (fun _ => rfl)
      (RdI w1.heap.size wc.heap.size w.heap.size w)
      (fun _ _ _ => False)
      (RdI.own (Nat.le_refl _) (by omega))
      (fun _ _ _ _ _ hs _ _ => hs)
      ⟨none, 0, 0, HST.out.row, Mine.nil _ _, hBw, Nat.le_refl _⟩
      (fun x a' W => ∃ Bx x1 x2 x3 y1 y2 y3 z1 z2 z3, x.2 = (.slice x1 x2 x3, .slice y1 y2 y3, .slice z1 z2 z3) ∧ Blk W Bx [.bool false, .slice x1 x2 x3, .bool x.1.sum, .int .i64 x.1.bound, .slice y1 y2 y3, .slice z1 z2 z3] 55 ∧ RedR wc.heap.size x W ∧
        a' = { tmps := #[.agg #[.int .i64 p.n, vn, vs, .slice a1 p.rules.length c1, vm], .slice a4 m.length c4, .pointer (some ⟨w.heap.size, 0, none⟩), undef, .slice none 0 0, .int .i64 0, .int .i64 0, .pointer (some ⟨w1.heap.size, 0, none⟩), .pointer (some ⟨Bx, 0, none⟩), .agg #[.int .i64 p.n, vn, vs, .slice a1 p.rules.length c1, vm], .slice a4 m.length c4, .int .i64 0, .int .i64 0, .bool false, undef, u15, u16, u17, .func (.func 145) #[] #[.pointer (some ⟨pb, 0, none⟩), .pointer (some ⟨fb, 0, none⟩)], .agg #[.bool false, .slice x1 x2 x3, .bool x.1.sum, .int .i64 x.1.bound, .slice y1 y2 y3, .slice z1 z2 z3], u20, u21, u22, u23, u24], defers := [] })
      (fun x a' _ X Y row hs hg hr => by obtain ⟨Bx, x1, x2, x3, y1, y2, y3, z1, z2, z3, h1, h2, h3, h4⟩ := hs; exact ⟨Bx, x1, x2, x3, y1, y2, y3, z1, z2, z3, h1, h2.ownT hg (fun r e => (hr r e).2), h3.ownT hg (fun r e => (hr r e).2), h4⟩)
      ?assign ?body ?done ?stop
    case assign =>
      rintro l pre ⟨x, xv1, xv2, xv3⟩ W K hI hR hK
      obtain ⟨x1, x2, x3, rfl⟩ := hR.2.1.form
      obtain ⟨y1, y2, y3, rfl⟩ := hR.2.2.1.form
      obtain ⟨z1, z2, z3, rfl⟩ := hR.2.2.2.1.form
      have hbn := Blk.new W [.bool false, .slice x1 x2 x3, .bool x.sum, .int .i64 x.bound, .slice y1 y2 y3, .slice z1 z2 z3] 55
      have HBN := Lib.hid hbn
      have HI := Lib.hid hI
      have HR := Lib.hid hR
      have hzW : wc.heap.size ≤ W.heap.size := by obtain ⟨_, _, _, _, _, _, h⟩ := hI; exact h
      clear hbn hI hR
      simp only [redEnc]
      gi_wp2
      have hbl := bal (Below.refl W.heap.size W) (.cells #[.bool false, .slice x1 x2 x3, .bool x.sum, .int .i64 x.bound, .slice y1 y2 y3, .slice z1 z2 z3] 55)
      exact hK _ _ ((KeepsOthers.alloc _ _).from _) ⟨.of_below hbl hzW, CK.below hbl (by omega)⟩ ((RdI.own (Z := w.heap.size) (Nat.le_refl _) (Nat.le_refl _)).alloc _ HI.out) ⟨W.heap.size, _, _, _, _, _, _, _, _, _, rfl, HBN.out, HR.out.below hbl, rfl⟩
    case body =>
      rintro l pre ⟨x, xv1, xv2, xv3⟩ a' W hl hloop hI ⟨Bx, x1, x2, x3, y1, y2, y3, z1, z2, z3, h1, hbx, hR, rfl⟩ hlt
      simp only [Prod.mk.injEq] at h1
      obtain ⟨rfl, rfl, rfl⟩ := h1
      obtain ⟨a, nn, c, hbv, hmine, hbw, hsz⟩ := hI
      have hlen := HSM.out.1
      have kv := hbv.cell 0
      have kx := hbx.cell
      have hrow := (hmine.below (bal (Below.refl W.heap.size W) (.cells #[.bool false, .slice x1 x2 x3, .bool x.sum, .int .i64 x.bound, .slice y1 y2 y3, .slice z1 z2 z3] 55))).row
      have hcl : cells6 (x, .slice x1 x2 x3, .slice y1 y2 y3, .slice z1 z2 z3) = [.bool false, .slice x1 x2 x3, .bool x.sum, .int .i64 x.bound, .slice y1 y2 y3, .slice z1 z2 z3] := by rw [cells6, hR.1]
      have hone : ∀ u ∈ [Value.bool false, .slice x1 x2 x3, .bool x.sum, .int .i64 x.bound, .slice y1 y2 y3, .slice z1 z2 z3], u.oneCell' = true := by
        intro u hu
        simp only [List.mem_cons, List.not_mem_nil, or_false] at hu
        rcases hu with rfl | rfl | rfl | rfl | rfl | rfl <;> rfl
      have HNB := Lib.hid (newsOf (Blk.new W [.bool false, .slice x1 x2 x3, .bool x.sum, .int .i64 x.bound, .slice y1 y2 y3, .slice z1 z2 z3] 55))
      have HBV := Lib.hid hbv
      have HMN := Lib.hid hmine
      have HBW := Lib.hid hbw
      have HR := Lib.hid hR
      have HROW := Lib.hid hrow
      have HCL := Lib.hid hcl
      have HONE := Lib.hid hone
      clear hbv hmine hbw hR hrow hcl hone hbx
      obtain ⟨i0, hi, hz0, hz1, hz2⟩ := info_parts infoR
      gi_wp2_with (gi_at_builtin; refine wpListIn_append_own_at _ rfl _ _ 24 rfl wc.heap.size 55 i0 _ 6 96 Tryz.underlying24 hi hz0 hz1 hz2 rfl (by decide) (.slice a nn c) pre.length (pre.flatMap cells6) rfl HROW.out ⟨W.heap.size, 0, none⟩ 1 1 [.bool false, .slice x1 x2 x3, .bool x.sum, .int .i64 x.bound, .slice y1 y2 y3, .slice z1 z2 z3] rfl rfl HNB.out HONE.out (by unfold maxLen; omega) (by omega) (by simp; omega) ?_; intro v' w3 hown' hgrow _ hat; rw [← HCL.out] at hown'; have hp := red_push (Z := wc.heap.size) (by omega) hsz (by omega) (Nat.le_refl _) HBV.out HMN.out HBW.out HR.out hown' hgrow hat; obtain ⟨g', cap', rfl⟩ := ownsRow_succ hown'; have hc1 := hp.1.cell 0; have hf1 := hp.1.free 0; have HPP := Lib.hid hp.2; clear hp hown' hgrow hat)
      exact HPP.out
    case done =>
      rintro D xs W hD hS ⟨a, nn, c, hbv, hmine, hbw, hsz⟩ hK
      have kv := hbv.cell 0
      have hlen := HSM.out.1
      have hxl : xs.length = (redL p m).length := by rw [← hS, rqs_len]
      have HRU : Hid (RulesIs (W.putObj D (.deferred none)) (.slice a nn c) (redL p m)) := Lib.hid (by
        have hmd := hmine.ownT (grownBy_putObj' W D (.deferred none)) (fun r e => by cases e; exact ⟨_, hK, rfl⟩)
        exact ⟨_, _, _, hmd.rules (redL p m) hS (by omega) (fun q hq => HSM.out.2 q.1 (by rw [← hS]; exact List.mem_map_of_mem hq))⟩)
      have HBW := Lib.hid hbw
      clear hbv hmine hbw
      gi_wp2
      refine ⟨by simp, .inl ⟨_, _, rfl, run_takeDeferred hK, ?_⟩⟩
      refine ⟨_, ?_, _, rfl, HRU.out, HBW.out.trans (belowK_b (w := w) (Nat.le_refl _) W D _ _ (by omega) hK rfl rfl)⟩
      simp [results, Tryz.f70, go_sem]
    case stop =>
      rintro D c pre W _ _ h _
      exact h.elim
end Go.Proofs.YtjodocheiejkeaaGreatDoor
namespace Go.Proofs.YtjodocheiejkeaaGreatDoor
open Go.RowKit
theorem least_intQ (v : Value) (R : List GR) (n : Int) (w : World) (h : RulesIs w v R) (hB : definiteB n R = true) : Calls Tryz.prog 72 #[.int .i64 n, v] w (LeastPost R n.toNat w) := by
  have hr := (definiteB_spec hB).rng
  obtain ⟨k, rfl⟩ : ∃ k : Nat, n = k := ⟨n.toNat, by omega⟩
  rw [Int.toNat_natCast]
  exact least_any v R k w h hB
def StabIs (p : GP) (m : List Int) (b : Bool) : Prop := ∀ F, IsFnd p (extA p m) F → b = (suppB p m && decide (findTo F (extA p m) p.n.toNat = []))
theorem StabIs.no {p : GP} {m : List Int} (h : modelsB p m = false) : StabIs p m false := fun F _ => by
  unfold suppB; rw [h]; rfl
theorem stabD_no {p : GP} {m : List Int} (h : modelsB p m = false) : false = true ↔ StabD p m :=
  ⟨fun e => (by cases e), fun e => by rw [e.model] at h; cases h⟩
theorem stabD_yes {p : GP} {m M : List Int} (hv : validE p = 0) (hf : flatP p = true) (hm : setQ p.n m = true) (h : modelsB p m = true) (hM : IsLeast (redL p m) M) (hs : M.Pairwise (· < ·)) : decide (M = m) = true ↔ StabD p m := by
  have := stabD_flat hv hf hm hM hs
  rwa [h, Bool.true_and] at this
set_option maxHeartbeats 4000000 in
set_option maxRecDepth 100000 in
theorem isF_any (v vm : Value) (p : GP) (m : List Int) (w : World) (h : ProgIs w v p) (hm : Ints w vm m) (hv : validE p = 0) (hf : flatP p = true) (hs : setQ p.n m = true) (hl : (redL p m).length ≤ 40000) (hml : m.length ≤ 1000000000) :
    Calls Tryz.prog 31 #[v, vm, .bool false] w fun e w' => ∃ b, e = .returned (.bool b) ∧ (b = true ↔ StabD p m) ∧ Below w.heap.size w w' := by
  have h0 := h
  obtain ⟨vn, vs, vr, vmn, rfl, -⟩ := h
  have hal := bal (Below.refl w.heap.size w) (.cells #[.int .i64 p.n, vn, vs, vr, vmn] 27)
  have HBX := Lib.hid (Blk.new w [.int .i64 p.n, vn, vs, vr, vmn] 27)
  have kx := HBX.out.cell
  have hlt := HBX.out.lt
  have HP0 := Lib.hid h0
  have HM0 := Lib.hid hm
  have HP := Lib.hid (h0.below hal)
  have HM := Lib.hid (hm.below hal)
  have HAL := Lib.hid hal
  have HV := Lib.hid hv
  have HF := Lib.hid hf
  have HS := Lib.hid hs
  have HDF := Lib.hid (red_definite hv hf hl)
  clear hal h0 hm
  cases hmo : modelsB p m with
  | false =>
    have HC : Hid ((decide (checkE p m = 0) && modelsB p m) = false ∧ checkE p m = 0) := Lib.hid ⟨by rw [hmo, Bool.and_false], by unfold checkE; rw [if_neg (by simp [hv]), hs]; rfl⟩
    have HMO := Lib.hid hmo
    clear hmo hv hs hf
    go_enter Tryz.func31, Tryz.ntmps31
    go_wp2_with (go_at_call 40; (with_reducible refine (models_any _ _ p m _ HP.out HM.out).mono ?_); rintro e w1 ⟨e1, hb1⟩; rw [HC.out.1, HC.out.2] at e1; subst e1)
    go_ret
    exact ⟨false, rfl, stabD_no HMO.out, bon HAL.out hb1⟩
  | true =>
    have HC : Hid ((decide (checkE p m = 0) && modelsB p m) = true ∧ checkE p m = 0) := Lib.hid (by
      have : checkE p m = 0 := by unfold checkE; rw [if_neg (by simp [hv]), hs]; rfl
      exact ⟨by rw [hmo, decide_eq_true this]; rfl, this⟩)
    have HMO := Lib.hid hmo
    clear hmo hv hs hf
    go_enter Tryz.func31, Tryz.ntmps31
    go_wp2_with (first
      | (go_at_call 73; (with_reducible refine (sEqual_any _ _ M m _ (HQM.out.ints hML) (HM0.out.below HB3.out)).mono ?_); rintro e w4 ⟨rfl, hb4⟩)
      | (go_at_call 72; (with_reducible refine (least_intQ _ (redL p m) p.n _ HRU.out HDF.out).mono ?_); rintro e w3 ⟨M, ao, co, rfl, hqM, hlM, hsM, hrM, hlenM, hb3⟩; have HQM := Lib.hid hqM; have HLM := Lib.hid hlM; have HSM := Lib.hid hsM; have HB3 := Lib.hid (bon HB2.out hb3); have hML : M.length * 8 ≤ 140737488351232 := (by have := (validP HV.out).n; omega); clear hqM hlM hsM hrM hb3)
      | (go_at_call 70; (with_reducible refine (reduct_any _ _ p m _ (HP0.out.below HB1.out) (HM0.out.below HB1.out) HV.out HS.out hml).mono ?_); rintro e w2 ⟨vrr, rfl, hru, hb2⟩; have HRU := Lib.hid hru; have HB2 := Lib.hid (bon HB1.out hb2); have kx2 := fun o => (bcell hb2 _ o hlt1).trans (kx1 o); obtain ⟨ar, cr, rfl, -⟩ := hru.form; clear hru hb2)
      | (go_at_call 40; (with_reducible refine (models_any _ _ p m _ HP.out HM.out).mono ?_); rintro e w1 ⟨e1, hb1⟩; rw [HC.out.1, HC.out.2] at e1; subst e1; have kx1 := fun o => (bcell hb1 _ o hlt).trans (kx o); have hlt1 := Nat.lt_of_lt_of_le hlt hb1.size; have HB1 := Lib.hid (bon HAL.out hb1); clear hb1))
    go_ret
    exact ⟨_, rfl, stabD_yes HV.out HF.out HS.out HMO.out HLM.out HSM.out, bon HB3.out hb4⟩
set_option maxHeartbeats 4000000 in
set_option maxRecDepth 100000 in
theorem isM_any (v vm : Value) (p : GP) (m : List Int) (w : World) (h : ProgIs w v p) (hm : Ints w vm m) (hv : validE p = 0) (hs : setQ p.n m = true) (hml : m.length ≤ 12) :
    Calls Tryz.prog 31 #[v, vm, .bool true] w fun e w' => ∃ b, e = .returned (.bool b) ∧ (b = true ↔ StabD p m) ∧ Below w.heap.size w w' := by
  have h0 := h
  obtain ⟨vn, vs, vr, vmn, rfl, -⟩ := h
  have hal := bal (Below.refl w.heap.size w) (.cells #[.int .i64 p.n, vn, vs, vr, vmn] 27)
  have HBX := Lib.hid (Blk.new w [.int .i64 p.n, vn, vs, vr, vmn] 27)
  have kx := HBX.out.cell
  have hlt := HBX.out.lt
  have HP0 := Lib.hid h0
  have HM0 := Lib.hid hm
  have HP := Lib.hid (h0.below hal)
  have HM := Lib.hid (hm.below hal)
  have HAL := Lib.hid hal
  have HV := Lib.hid hv
  have HS := Lib.hid hs
  have HBV := Lib.hid (red_bodyV (m := m) hv)
  clear hal h0 hm
  cases hmo : modelsB p m with
  | false =>
    have HC : Hid ((decide (checkE p m = 0) && modelsB p m) = false ∧ checkE p m = 0) := Lib.hid ⟨by rw [hmo, Bool.and_false], by unfold checkE; rw [if_neg (by simp [hv]), hs]; rfl⟩
    have HMO := Lib.hid hmo
    clear hmo hv hs
    go_enter Tryz.func31, Tryz.ntmps31
    go_wp2_with (go_at_call 40; (with_reducible refine (models_any _ _ p m _ HP.out HM.out).mono ?_); rintro e w1 ⟨e1, hb1⟩; rw [HC.out.1, HC.out.2] at e1; subst e1)
    go_ret
    exact ⟨false, rfl, stabD_no HMO.out, bon HAL.out hb1⟩
  | true =>
    have HC : Hid ((decide (checkE p m = 0) && modelsB p m) = true ∧ checkE p m = 0) := Lib.hid (by
      have : checkE p m = 0 := by unfold checkE; rw [if_neg (by simp [hv]), hs]; rfl
      exact ⟨by rw [hmo, decide_eq_true this]; rfl, this⟩)
    have HMO := Lib.hid hmo
    clear hmo hv hs
    go_enter Tryz.func31, Tryz.ntmps31
    go_wp2_with (first
      | (go_at_call 71; (with_reducible refine (minimal_any _ _ (redL p m) m p.n _ HRU.out (HM0.out.below HB2.out) hml HBV.out).mono ?_); rintro e w3 ⟨b, rfl, hmi, hb3⟩)
      | (go_at_call 70; (with_reducible refine (reduct_any _ _ p m _ (HP0.out.below HB1.out) (HM0.out.below HB1.out) HV.out HS.out (by omega)).mono ?_); rintro e w2 ⟨vrr, rfl, hru, hb2⟩; have HRU := Lib.hid hru; have HB2 := Lib.hid (bon HB1.out hb2); have kx2 := fun o => (bcell hb2 _ o hlt1).trans (kx1 o); obtain ⟨ar, cr, rfl, -⟩ := hru.form; clear hru hb2)
      | (go_at_call 40; (with_reducible refine (models_any _ _ p m _ HP.out HM.out).mono ?_); rintro e w1 ⟨e1, hb1⟩; rw [HC.out.1, HC.out.2] at e1; subst e1; have kx1 := fun o => (bcell hb1 _ o hlt).trans (kx o); have hlt1 := Nat.lt_of_lt_of_le hlt hb1.size; have HB1 := Lib.hid (bon HAL.out hb1); clear hb1))
    go_ret
    exact ⟨_, rfl, stabD_min HV.out (setQ_sorted HS.out) HMO.out hmi, bon HB2.out hb3⟩
theorem isD_any (v vm : Value) (p : GP) (m : List Int) (d : Bool) (w : World) (h : ProgIs w v p) (hm : Ints w vm m) (hv : validE p = 0) (hd : d = false → flatP p = true) (hs : setQ p.n m = true) (hl : (redL p m).length ≤ 40000) (hml : m.length ≤ 12) :
    Calls Tryz.prog 31 #[v, vm, .bool d] w fun e w' => ∃ b, e = .returned (.bool b) ∧ (b = true ↔ StabD p m) ∧ Below w.heap.size w w' := by
  cases d with
  | false => exact isF_any v vm p m w h hm hv (hd rfl) hs hl (by omega)
  | true => exact isM_any v vm p m w h hm hv hs hml
end Go.Proofs.YtjodocheiejkeaaGreatDoor
namespace Go.Proofs.YtjodocheiejkeaaGreatDoor
open Go.Shelf
def Tryz.sortF_ren : Go.Shelf.Ren := ⟨fun | 6 => 32 | 15 => 75 | 14 => 74 | 28 => 110 | 29 => 111 | 20 => 102 | 21 => 103 | 22 => 104 | 23 => 105 | 24 => 106 | 25 => 107 | 26 => 108 | 27 => 109 | 46 => 151 | 47 => 152 | 48 => 153 | 49 => 154 | 50 => 155 | 57 => 175 | n => n, fun | 22 => 30 | 24 => 23 | 25 => 67 | 3 => 3 | 39 => 116 | 0 => 0 | 53 => 150 | 55 => 152 | 4 => 4 | 46 => 143 | 45 => 142 | 50 => 147 | 5 => 5 | 9 => 9 | 66 => 176 | 70 => 180 | 76 => 192 | 77 => 193 | n => n, fun | n => n⟩
theorem Tryz.sortF : Go.Proofs.SlLaysF.n6 Tryz.prog Tryz.sortF_ren := {
  mixed := by kernel_rfl
  f6 := ⟨Tryz.f32.name, by decide, Tryz.func32.trans (congrArg some (by kernel_rfl))⟩
  f14 := ⟨Tryz.f74.name, by decide, Tryz.func74.trans (congrArg some (by kernel_rfl))⟩
  f15 := Tryz.func75.trans (congrArg some (by kernel_rfl))
  f20 := ⟨Tryz.f102.name, by decide, Tryz.func102.trans (congrArg some (by kernel_rfl))⟩
  f21 := ⟨Tryz.f103.name, by decide, Tryz.func103.trans (congrArg some (by kernel_rfl))⟩
  f22 := ⟨Tryz.f104.name, by decide, Tryz.func104.trans (congrArg some (by kernel_rfl))⟩
  f23 := ⟨Tryz.f105.name, by decide, Tryz.func105.trans (congrArg some (by kernel_rfl))⟩
  f24 := ⟨Tryz.f106.name, by decide, Tryz.func106.trans (congrArg some (by kernel_rfl))⟩
  f25 := ⟨Tryz.f107.name, by decide, Tryz.func107.trans (congrArg some (by kernel_rfl))⟩
  f26 := ⟨Tryz.f108.name, by decide, Tryz.func108.trans (congrArg some (by kernel_rfl))⟩
  f27 := ⟨Tryz.f109.name, by decide, Tryz.func109.trans (congrArg some (by kernel_rfl))⟩
  f28 := Tryz.func110.trans (congrArg some (by kernel_rfl))
  f29 := Tryz.func111.trans (congrArg some (by kernel_rfl))
  f46 := ⟨Tryz.f151.name, by decide, Tryz.func151.trans (congrArg some (by kernel_rfl))⟩
  f47 := Tryz.func152.trans (congrArg some (by kernel_rfl))
  f48 := Tryz.func153.trans (congrArg some (by kernel_rfl))
  f49 := ⟨Tryz.f154.name, by decide, Tryz.func154.trans (congrArg some (by kernel_rfl))⟩
  f50 := ⟨Tryz.f155.name, by decide, Tryz.func155.trans (congrArg some (by kernel_rfl))⟩
  f57 := ⟨Tryz.f175.name, by decide, Tryz.func175.trans (congrArg some (by kernel_rfl))⟩
  t0 := Tryz.underlying0
  a0 := Tryz.isAgg0
  z0 := Tryz.sizeOf0
  v0 := Tryz.zeroValue0
  t3 := Tryz.underlying3
  a3 := Tryz.isAgg3
  z3 := Tryz.sizeOf3
  v3 := Tryz.zeroValue3
  t4 := Tryz.underlying4
  a4 := Tryz.isAgg4
  z4 := Tryz.sizeOf4
  v4 := Tryz.zeroValue4
  t5 := Tryz.underlying5
  a5 := Tryz.isAgg5
  z5 := Tryz.sizeOf5
  v5 := Tryz.zeroValue5
  t9 := Tryz.underlying9
  a9 := Tryz.isAgg9
  z9 := Tryz.sizeOf9
  v9 := Tryz.zeroValue9
  t22 := Tryz.underlying30
  a22 := Tryz.isAgg30
  z22 := Tryz.sizeOf30
  v22 := Tryz.zeroValue30
  a24 := Tryz.isAgg23
  z24 := Tryz.sizeOf23
  t25 := Tryz.underlying67
  a25 := Tryz.isAgg67
  z25 := Tryz.sizeOf67
  v25 := Tryz.zeroValue67
  t39 := Tryz.underlying116
  a39 := Tryz.isAgg116
  z39 := Tryz.sizeOf116
  v39 := Tryz.zeroValue116
  t45 := Tryz.underlying142
  a45 := Tryz.isAgg142
  z45 := Tryz.sizeOf142
  v45 := Tryz.zeroValue142
  t46 := Tryz.underlying143
  a46 := Tryz.isAgg143
  z46 := Tryz.sizeOf143
  v46 := Tryz.zeroValue143
  t50 := Tryz.underlying147
  a50 := Tryz.isAgg147
  z50 := Tryz.sizeOf147
  v50 := Tryz.zeroValue147
  t53 := Tryz.underlying150
  a53 := Tryz.isAgg150
  z53 := Tryz.sizeOf150
  v53 := Tryz.zeroValue150
  t55 := Tryz.underlying152
  a55 := Tryz.isAgg152
  z55 := Tryz.sizeOf152
  v55 := Tryz.zeroValue152
  t66 := Tryz.underlying176
  a66 := Tryz.isAgg176
  z66 := Tryz.sizeOf176
  v66 := Tryz.zeroValue176
  t70 := Tryz.underlying180
  a70 := Tryz.isAgg180
  z70 := Tryz.sizeOf180
  v70 := Tryz.zeroValue180
  t76 := Tryz.underlying192
  a76 := Tryz.isAgg192
  z76 := Tryz.sizeOf192
  v76 := Tryz.zeroValue192
  t77 := Tryz.underlying193
  a77 := Tryz.isAgg193
  z77 := Tryz.sizeOf193
  v77 := Tryz.zeroValue193 }
end Go.Proofs.YtjodocheiejkeaaGreatDoor
