/- My texts Bl41, Bw41, Bv41, merged. -/
import Derived.Test.YtfajkmmmmmfhiaaGreatDoorM11
import Derived.Test.YtfajkmmmmmfhiaaGreatDoorM10
import Derived.Test.YtfajkmmmmmfhiaaGreatDoorM08
import Derived.Test.YtfajkmmmmmfhiaaGreatDoorM07
import Derived.Test.YtfajkmmmmmfhiaaGreatDoorM06
import Derived.Test.YtfajkmmmmmfhiaaGreatDoorM05
import Derived.Test.YtfajkmmmmmfhiaaGreatDoorM04
import Derived.Test.YtfajkmmmmmfhiaaGreatDoorM21
import Derived.Test.YtfajkmmmmmfhiaaGreatDoorM03
import Derived.Test.YtfajkmmmmmfhiaaGreatDoorM00
import Derived.Test.YtfajkmmmmmfhiaaGreatDoorProg
import Derived.WalkKit
import Derived.Lib.Hide
import Derived.Deep.QuietTactic
import Derived.BigQuiet
import Derived.WalkSpells
import Derived.Lib.SliceRun
import Derived.MapKept
import Derived.Maps.OwnSet
import Derived.Maps.OwnOps
import Derived.Test.YtfajkmmmmmfhiaaGreatDoorM02
import Derived.Test.YtfajkmmmmmfhiaaGreatDoorM01
import Derived.Deep.AppendLies
import Derived.Lib.Bytealg
import Derived.Deep.DeepCutAuto
import Derived.Laws.EntriesVeiled
import Derived.Deep.RegionWith
import Derived.Deep.OwnRows
import Derived.RangeFuncNested
import Derived.RangeFuncBound
import Derived.RangeFuncCalls
import Derived.RangeFuncLeaves
import Derived.OwnWalkIn
import Derived.TacticsInMore
import Derived.LoopNIn
import Derived.LoopIn
import Derived.Stop.RegionWithIn
import Derived.Shelf.Abstract
import Derived.Deep.LoopGhost
import Derived.Deep.DrawnRows
import Derived.Shelf.Sort.Plain
import Derived.Shelf.Slices.CompactI
import Derived.Shelf.Slices.In.SortNone
import Derived.Shelf.Strconv.Itoa3
import Derived.Shelf.Strings.BuilderK
import Derived.Shelf.Slices.SearchI
import Derived.Shelf.Slices.Empties
import Derived.Test.YtfajkmmmmmfhiaaGreatDoorM09
import Derived.Deep.AppendSrc
import Derived.Test.YtfajkmmmmmfhiaaGreatDoorM17
import Derived.Test.YtfajkmmmmmfhiaaGreatDoorM16
import Derived.Test.YtfajkmmmmmfhiaaGreatDoorM14
import Derived.Test.YtfajkmmmmmfhiaaGreatDoorM12
import Derived.Lib.ItoaNum
import Derived.Test.YtfajkmmmmmfhiaaGreatDoorM13
import Derived.Lib.SlicesCompact
import Derived.Sort.OwnSortedInts
import Derived.Sort.QuietThIn
import Derived.Test.YtfajkmmmmmfhiaaGreatDoorM15
import Derived.Maps.RangeWalk
import Derived.RangeFuncBox
import Derived.Maps.OwnIn
import Derived.Lib.RowBridge
import Derived.Test.YtfajkmmmmmfhiaaGreatDoorM19
import Derived.ProofKit
import Derived.OpenShut
import Derived.ChangeArms
import Derived.SizedLaws

namespace Go.Proofs.YtfajkmmmmmfhiaaGreatDoor
open Go.RowKit
theorem anyR41 {n : Nat} {f : Nat → Bool} (h : anyR n f = true) : ∃ k, k < n ∧ f k = true := by
  apply Classical.byContradiction
  intro hn
  have : anyR n f = false := anyR_false (fun j hj => by
    cases e : f j with
    | false => rfl
    | true => exact (hn ⟨j, hj, e⟩).elim)
  rw [h] at this
  cases this
theorem firI_ok {f : Nat → Bool} {n : Nat} (h : anyR n f = true) : firI f n < n ∧ f (firI f n) = true := by
  unfold firI
  cases e : (List.range n).find? f with
  | none =>
    exfalso
    obtain ⟨j, hj, hf⟩ := anyR41 h
    have := List.find?_eq_none.1 e j (List.mem_range.2 hj)
    exact this hf
  | some i =>
    exact ⟨List.mem_range.1 (List.mem_of_find?_eq_some e), List.find?_some e⟩
def litR (x : Int) : GR := ⟨false, [], false, 0, [x], []⟩
theorem litR_v {r : GR} {n x : Int} (h : BodyV r n) (hx : x ∈ r.body) : BodyV (litR x) n := by
  refine ⟨h.rng, ?_, fun h => (by cases h), Int.le_refl _⟩
  have := ordered_lit h.ord hx
  show orderedB [x] n = true
  refine allR_true fun i hi => ?_
  obtain rfl : i = 0 := by simp at hi; omega
  simp [okAt, litB, ix]
  omega
theorem litR_body (x : Int) (m : List Int) : bodyT (litR x) m = litT m x := by
  unfold bodyT litR
  simp [allR, ix]
theorem all_any {n : Nat} {f : Nat → Bool} (h : allR n f = false) : anyR n (fun j => !f j) = true := by
  cases e : anyR n (fun j => !f j) with
  | true => rfl
  | false =>
    have : allR n f = true := allR_true fun i hi => by
      cases hf : f i with
      | true => rfl
      | false => exact absurd (anyR_true (f := fun j => !f j) i hi (by simp [hf])) (by rw [e]; exact Bool.false_ne_true)
    rw [h] at this; cases this
theorem blkB_1 {r : GR} {m : List Int} {i : Int} (hb : bodyT r m = false) (hs : r.sum = false) : ∃ x, blkB r m i = ⟨i, 1, x⟩ ∧ x ∈ r.body ∧ litT m x = false := by
  have h := hb
  unfold bodyT at h
  rw [if_neg (by rw [hs]; exact Bool.false_ne_true)] at h
  obtain ⟨h1, h2⟩ := firI_ok (all_any h)
  refine ⟨_, by unfold blkB; rw [if_pos hb, if_neg (by rw [hs]; exact Bool.false_ne_true)], ix_mem h1, ?_⟩
  simpa using h2
theorem blkB_2 {r : GR} {m : List Int} {i : Int} (hb : bodyT r m = false) (hs : r.sum = true) : blkB r m i = ⟨i, 2, 0⟩ := by unfold blkB; rw [if_pos hb, if_pos hs]
theorem blkB_4 {r : GR} {m : List Int} {i : Int} (hb : bodyT r m = true) (hc : r.choice = true) : blkB r m i = ⟨i, 4, 0⟩ := by unfold blkB; rw [if_neg (by rw [hb]; exact Bool.noConfusion), if_pos hc]
theorem blkB_3 {r : GR} {m : List Int} {i : Int} (hb : bodyT r m = true) (hc : r.choice = false) (hm : satT r m = true) : ∃ x, blkB r m i = ⟨i, 3, x⟩ ∧ x ∈ r.head ∧ x ∈ m := by
  unfold satT at hm
  rw [hb, hc] at hm
  obtain ⟨h1, h2⟩ := firI_ok (show anyR r.head.length (fun j => decide (ix r.head j ∈ m)) = true by simpa using hm)
  exact ⟨_, by unfold blkB; rw [if_neg (by rw [hb]; exact Bool.noConfusion), if_neg (by rw [hc]; exact Bool.false_ne_true)], ix_mem h1, of_decide_eq_true h2⟩
theorem blksTo_pre (p : GP) (m : List Int) (a : Int) (k : Nat) : ∀ d, ∃ t, blksTo p m a (k + d) = blksTo p m a k ++ t
  | 0 => ⟨[], by simp⟩
  | d + 1 => by
    obtain ⟨t, h⟩ := blksTo_pre p m a k d
    show ∃ t, (if a ∈ (ixR p.rules (k + d)).head then blksTo p m a (k + d) ++ [blkB (ixR p.rules (k + d)) m (k + d : Nat)] else blksTo p m a (k + d)) = _
    split
    · exact ⟨t ++ [blkB (ixR p.rules (k + d)) m (k + d : Nat)], by rw [h, List.append_assoc]⟩
    · exact ⟨t, h⟩
theorem blksTo_at {p : GP} {m : List Int} {a : Int} {i n : Nat} (hi : i < n) (ha : a ∈ (ixR p.rules i).head) : (blksTo p m a i).length < (blksTo p m a n).length ∧ ixK (blksTo p m a n) (blksTo p m a i).length = blkB (ixR p.rules i) m i ∧ (blksTo p m a (i + 1)).length = (blksTo p m a i).length + 1 := by
  have h1 : blksTo p m a (i + 1) = blksTo p m a i ++ [blkB (ixR p.rules i) m i] := if_pos ha
  obtain ⟨t, ht⟩ := blksTo_pre p m a (i + 1) (n - (i + 1))
  rw [show i + 1 + (n - (i + 1)) = n by omega, h1] at ht
  rw [ht, h1]
  refine ⟨by simp, ?_, by simp⟩
  unfold ixK
  simp [List.getD_eq_getElem?_getD, List.append_assoc]
theorem blksTo_skip {p : GP} {m : List Int} {a : Int} {i : Nat} (ha : a ∉ (ixR p.rules i).head) : blksTo p m a (i + 1) = blksTo p m a i := if_neg ha
theorem blocks_sl {v vset : Value} {p : GP} {m : List Int} {a : Int} {l : List BK} {E : Int} {w : World} (hl : blksX p m a = (l, E)) (h8 : l.length ≤ 1000000) (h : ProgIs w v p) (hm : Ints w vset m) :
    Calls Tryz.prog 17 #[v, vset, .int .i64 a] w fun e w' => ∃ b c, e = .returned (.tuple #[.slice b l.length c, .int .i64 E]) ∧ BlksIs w' (.slice b l.length c) l ∧ Below w.heap.size w w' := by
  refine (blocks_any v vset p m a w h hm).mono ?_
  rintro e w' ⟨vo, rfl, h1, hb⟩
  rw [hl] at h1 ⊢
  obtain ⟨b, c, rfl⟩ := h1.slen
  exact ⟨b, c, rfl, h1.blks (by show l.length * 24 ≤ _; omega), hb⟩
theorem models_ok {v vset : Value} {p : GP} {m : List Int} {b : Bool} {w : World} (hv : validE p = 0) (hs : setQ p.n m = true) (hm : modelsB p m = b) (h : ProgIs w v p) (hi : Ints w vset m) :
    Calls Tryz.prog 31 #[v, vset] w fun e w' => e = .returned (.tuple #[.bool b, .int .i64 0]) ∧ Below w.heap.size w w' := by
  have := models_any v vset p m w h hi
  have hc : checkE p m = 0 := by unfold checkE; rw [if_neg (by simp [hv]), hs]; rfl
  rw [hc, hm] at this
  simpa using this
theorem blocks_nil {v vset : Value} {p : GP} {m : List Int} {a : Int} {E : Int} {w : World} (hl : blksX p m a = ([], E)) (h : ProgIs w v p) (hm : Ints w vset m) :
    Calls Tryz.prog 17 #[v, vset, .int .i64 a] w fun e w' => ∃ b c, e = .returned (.tuple #[.slice b 0 c, .int .i64 E]) ∧ Below w.heap.size w w' :=
  (blocks_sl hl (by simp) h hm).mono fun e w' ⟨b, c, h1, _, h3⟩ => ⟨b, c, h1, h3⟩
theorem lit_call {v : Value} {m : List Int} {x n : Int} {r : GR} {b : Bool} {w : World} (hb : litT m x = b) (hV : BodyV r n) (hx : x ∈ r.body) (hI : InI x) (hml : m.length ≤ 1000000000) (h : Ints w v m) :
    Calls Tryz.prog 32 #[.agg #[.bool false, .slice none 0 0, .bool false, .int .i64 0, .slice (some ⟨w.heap.size, 0, none⟩) 1 1, .slice none 0 0], v] (w.alloc (.cells #[.int .i64 x] 3)) fun e w' => e = .returned (.bool b) ∧ Below w.heap.size w w' := by
  have hal := bal (Below.refl w.heap.size w) (.cells #[.int .i64 x] 3)
  refine (rBody_any _ v (litR x) m _ ⟨_, _, _, rfl, nil_ints _, (Blk.new w [.int .i64 x] 3).ints1 hI, nil_ints _, (show InI 0 from inI_small (by decide))⟩ (h.below hal) hml (litR_v hV hx)).mono ?_
  rintro e w' ⟨rfl, h2⟩
  rw [litR_body, hb]
  exact ⟨rfl, bon hal h2⟩
def Eb41Rel (w : World) (p : GP) (vn vs vr vm vS : Value) (m : List Int) (a : Int) (vL : Value) (L : List BK) (kv iv : Value) (W : World) : Prop :=
  ∃ i : Nat, i ≤ p.rules.length ∧ iv = .int .i64 i ∧ kv = .int .i64 ((blksTo p m a i).length : Nat) ∧ Eb41 w p vn vs vr vm vS m vL L W
set_option maxHeartbeats 8000000 in
set_option maxRecDepth 100000 in
theorem eblocks_any (v : Value) (p : GP) (bits at' : Int) (w : World) (h : ProgIs w v p) (hat : 0 ≤ at' ∧ at' ≤ 255) :
    Calls Tryz.prog 6 #[v, .int .u16 bits, .int .u8 at'] w fun e w' => e = .returned (.bool true) ∧ Below w.heap.size w w' := by
  have h0 := h
  obtain ⟨vn, vs, vr, vm, rfl, hps⟩ := h
  have hIn := hps.n
  unfold InI at hIn
  obtain ⟨a4, c4, rfl, -, hl4, -, hcr⟩ := hps.rules.form
  have HCR := Lib.hid hcr
  have HS0 := Lib.hid (E41.start h0)
  have kx0 := HS0.out.box.cell
  clear h0 hps hcr
  go_enter Tryz.func6, Tryz.ntmps6
  go_upto_region 1 with fail
  generalize w.alloc (.cells #[.int .i64 p.n, vn, vs, .slice a4 p.rules.length c4, vm] 27) = W0 at *
  cases hf : few17B p with
  | false =>
    have HFW := Lib.hid hf
    clear hf
    go_wp2_with (first | (go_at_call 12; (with_reducible refine (awake41_any _).mono ?_); rintro e w9 ⟨rfl, hb9⟩; have HS9 := Lib.hid (HS1.out.on hb9); have kx9 := HS9.out.box.cell; clear hb9) | (go_at_call 11; (with_reducible refine (few17_any _ p _ HS0.out.prog).mono ?_); rintro e w1 ⟨h1, hb1⟩; rw [HFW.out] at h1; subst h1; have HS1 := Lib.hid (HS0.out.on hb1); have kx1 := HS1.out.box.cell; clear hb1))
    go_ret
    exact ⟨rfl, HS9.out.below⟩
  | true =>
    have hn12 := few17_n hf
    have HFW := Lib.hid hf
    clear hf
    by_cases hv : validE p = 0
    · have hn0 := (validP hv).n
      have hveq : (validE p != 0) = false := by simp [hv]
      have HV := Lib.hid hv
      clear hv
      by_cases hz : p.n = 0
      · have hzq : (p.n == 0) = true := by simp [hz]
        clear hz
        go_wp2_with (first | (go_at_call 12; (with_reducible refine (awake41_any _).mono ?_); rintro e w9 ⟨rfl, hb9⟩; have HS9 := Lib.hid (HS2.out.on hb9); have kx9 := HS9.out.box.cell; clear hb9) | (go_at_call 27; (with_reducible refine (valid_any _ p w1 HS1.out.prog).mono ?_); rintro e w2 ⟨rfl, hb2⟩; have HS2 := Lib.hid (HS1.out.on hb2); have kx2 := HS2.out.box.cell; clear hb2) | (go_at_call 11; (with_reducible refine (few17_any _ p _ HS0.out.prog).mono ?_); rintro e w1 ⟨h1, hb1⟩; rw [HFW.out] at h1; subst h1; have HS1 := Lib.hid (HS0.out.on hb1); have kx1 := HS1.out.box.cell; clear hb1))
        go_ret
        exact ⟨rfl, HS9.out.below⟩
      · have hzq : (p.n == 0) = false := by simp [hz]
        obtain ⟨m, hm⟩ : ∃ m, subL bits p.n.toNat = m := ⟨_, rfl⟩
        have hset := subL_set19 bits hn0.1
        have hml : m.length ≤ 12 := by have := subL_len bits p.n.toNat; rw [hm] at this; omega
        rw [hm] at hset
        have HM := Lib.hid hm
        have HSET := Lib.hid hset
        clear hm hset
        go_upto_region 4 with (first | (go_at_call 28; (with_reducible refine (subset19_int p.n bits ⟨hn0.1, by omega⟩ w2).mono ?_); rintro e w3 ⟨vS, rfl, hq, hb3⟩; rw [HM.out] at hq; obtain ⟨aS, cS, rfl⟩ := hq.slen; have HS3 := Lib.hid (HS2.out.on hb3); have kx3 := HS3.out.box.cell; have HI3 := Lib.hid (hq.ints (by omega)); clear hb3 hq) | (go_at_call 27; (with_reducible refine (valid_any _ p w1 HS1.out.prog).mono ?_); rintro e w2 ⟨rfl, hb2⟩; have HS2 := Lib.hid (HS1.out.on hb2); have kx2 := HS2.out.box.cell; clear hb2) | (go_at_call 11; (with_reducible refine (few17_any _ p _ HS0.out.prog).mono ?_); rintro e w1 ⟨h1, hb1⟩; rw [HFW.out] at h1; subst h1; have HS1 := Lib.hid (HS0.out.on hb1); have kx1 := HS1.out.box.cell; clear hb1))
        obtain ⟨t, ht⟩ : ∃ t, at'.tmod p.n = t := ⟨_, rfl⟩
        have hrem : 0 ≤ t ∧ t < p.n := by
          rw [← ht]
          exact ⟨Int.tmod_nonneg _ hat.1, Int.tmod_lt_of_pos _ (by omega)⟩
        obtain ⟨a, ha⟩ : ∃ a, 1 + t = a := ⟨_, rfl⟩
        have haI : InI a := by unfold InI; omega
        have HAI := Lib.hid haI
        have hab : 1 ≤ a ∧ a ≤ p.n := by omega
        clear haI
        cases hmod : modelsB p m with
        | false =>
          have HBX : Hid (blksX p m a = ([], 410)) := Lib.hid (by
            have : xE p m = 410 := by unfold xE; rw [if_neg (by simp [HV.out]), if_pos HSET.out, if_neg (by rw [hmod]; exact Bool.false_ne_true)]
            unfold blksX; rw [if_pos (by rw [this]; decide), this])
          have HMOD := Lib.hid hmod
          clear hmod
          go_wp2_with (first
            | (go_at_call 12; (with_reducible refine (awake41_any _).mono ?_); rintro e w9 ⟨rfl, hb9⟩; have HS9 := Lib.hid (HS5.out.on hb9); have kx9 := HS9.out.box.cell; clear hb9)
            | (go_at_call 31; (with_reducible refine (models_ok HV.out HSET.out HMOD.out HS4.out.prog HI4.out).mono ?_); rintro e w5 ⟨rfl, hb5⟩; have HS5 := Lib.hid (HS4.out.on hb5); have kx5 := HS5.out.box.cell; clear hb5)
            | (go_at_call 17; (with_reducible refine (blocks_nil HBX.out HS3.out.prog HI3.out).mono ?_); rintro e w4 ⟨bb, cb, rfl, hb4⟩; have HS4 := Lib.hid (HS3.out.on hb4); have kx4 := HS4.out.box.cell; have HI4 := Lib.hid (HI3.out.below hb4); clear hb4))
          go_ret
          exact ⟨rfl, HS9.out.below⟩
        | true =>
          have hxe := xE_of HV.out HSET.out hmod
          have HMOD := Lib.hid hmod
          clear hmod
          by_cases ham : a ∈ m
          · have HBX : Hid (blksX p m a = ([], 2)) := Lib.hid (by unfold blksX; rw [if_neg (by simp [hxe]), if_pos (.inr (.inr ham))])
            have HAM : Hid (decide (a ∈ m) = true) := Lib.hid (decide_eq_true ham)
            clear ham hxe
            go_wp2_with (first
              | (go_at_call 12; (with_reducible refine (awake41_any _).mono ?_); rintro e w9 ⟨rfl, hb9⟩; have HS9 := Lib.hid (HS6.out.on hb9); have kx9 := HS9.out.box.cell; clear hb9)
              | (go_at_call 29; (with_reducible refine (in1_call HAM.out HAI.out HI5.out).mono ?_); rintro e w6 ⟨rfl, hb6⟩; have HS6 := Lib.hid (HS5.out.on hb6); have kx6 := HS6.out.box.cell; clear hb6)
              | (go_at_call 31; (with_reducible refine (models_ok HV.out HSET.out HMOD.out HS4.out.prog HI4.out).mono ?_); rintro e w5 ⟨rfl, hb5⟩; have HS5 := Lib.hid (HS4.out.on hb5); have kx5 := HS5.out.box.cell; have HI5 := Lib.hid (HI4.out.below hb5); clear hb5)
              | (go_at_call 17; (with_reducible refine (blocks_nil HBX.out HS3.out.prog HI3.out).mono ?_); rintro e w4 ⟨bb, cb, rfl, hb4⟩; have HS4 := Lib.hid (HS3.out.on hb4); have kx4 := HS4.out.box.cell; have HI4 := Lib.hid (HI3.out.below hb4); clear hb4))
            go_ret
            exact ⟨rfl, HS9.out.below⟩
          · obtain ⟨L, hL⟩ : ∃ L, blksTo p m a p.rules.length = L := ⟨_, rfl⟩
            have hLl : L.length ≤ p.rules.length := by rw [← hL]; exact blksTo_len p m a _
            have hrl := (validP HV.out).rules
            have HBX : Hid (blksX p m a = (L, 0)) := Lib.hid (by unfold blksX; rw [if_neg (by simp [hxe]), if_neg (by rintro (h | h | h); omega; omega; exact ham h), hL])
            have HAM : Hid (decide (a ∈ m) = false) := Lib.hid (decide_eq_false ham)
            have HLL := Lib.hid hL
            have HL8 : Hid (L.length ≤ 1000000) := Lib.hid (by omega)
            clear ham hxe hL
            go_upto_region 9 with (first
              | (go_at_call 29; (with_reducible refine (in1_call HAM.out HAI.out HI5.out).mono ?_); rintro e w6 ⟨rfl, hb6⟩; have HS6 := Lib.hid (HS5.out.on hb6); have kx6 := HS6.out.box.cell; have HI6 := Lib.hid (HI5.out.below hb6); have HK6 := Lib.hid (HK5.out.below hb6); clear hb6)
              | (go_at_call 31; (with_reducible refine (models_ok HV.out HSET.out HMOD.out HS4.out.prog HI4.out).mono ?_); rintro e w5 ⟨rfl, hb5⟩; have HS5 := Lib.hid (HS4.out.on hb5); have kx5 := HS5.out.box.cell; have HI5 := Lib.hid (HI4.out.below hb5); have HK5 := Lib.hid (HK4.out.below hb5); clear hb5)
              | (go_at_call 17; (with_reducible refine (blocks_sl HBX.out HL8.out HS3.out.prog HI3.out).mono ?_); rintro e w4 ⟨bb, cb, rfl, hk4, hb4⟩; have HS4 := Lib.hid (HS3.out.on hb4); have kx4 := HS4.out.box.cell; have HI4 := Lib.hid (HI3.out.below hb4); have HK4 := Lib.hid hk4; clear hb4 hk4))
            clear kx0 kx1 kx2 kx3 kx4 kx5
            go_wp2_with fail
            go_loopw [13, 95] (fun k i wx => Eb41Rel w p vn vs (.slice a4 p.rules.length c4) vm (.slice aS m.length cS) m a (.slice bb L.length cb) L k i wx) (fun _ i _ => p.rules.length - (intOf i).toNat)
            case atStart => exact ⟨0, Nat.zero_le _, rfl, rfl, HS6.out, HI6.out, HK6.out⟩
            case round =>
              obtain ⟨i, hi, rfl, rfl, hst⟩ := hrel
              have HE := Lib.hid hst
              have hkl : (blksTo p m a i).length ≤ i := blksTo_len p m a i
              clear hst kx6
              by_cases hlt : i < p.rules.length
              · obtain ⟨b, off, rfl, hbl, hc⟩ := HCR.out (by omega)
                obtain ⟨vh, vb, vw, ⟨r0, r1, r2, r3, r4, r5⟩, hsl⟩ := hc i hlt
                have hV := bodyV_valid HV.out hlt
                have hsat : satT (ixR p.rules i) m = true := allR_get HMOD.out i hlt
                have HAT : Hid (a ∈ (ixR p.rules i).head → (blksTo p m a i).length < L.length ∧ ixK L (blksTo p m a i).length = blkB (ixR p.rules i) m i ∧ (blksTo p m a (i + 1)).length = (blksTo p m a i).length + 1) := Lib.hid (fun h => by rw [← HLL.out]; exact blksTo_at hlt h)
                have HSK : Hid (a ∉ (ixR p.rules i).head → blksTo p m a (i + 1) = blksTo p m a i) := Lib.hid blksTo_skip
                generalize ixR p.rules i = r at *
                obtain ⟨x1, y1, rfl, -, g1, -, -⟩ := hsl.head.form
                obtain ⟨x2, y2, rfl, -, g2, -, -⟩ := hsl.body.form
                obtain ⟨x3, y3, rfl, -, g3, -, -⟩ := hsl.wts.form
                have kk := bcell HE.out.st.below b
                have q0 := (kk _ hbl).trans r0
                have q1 := (kk _ hbl).trans r1
                have q2 := (kk _ hbl).trans r2
                have q3 := (kk _ hbl).trans r3
                have q4 := (kk _ hbl).trans r4
                have q5 := (kk _ hbl).trans r5
                have HSL := Lib.hid (hsl.below HE.out.st.below)
                have HBV := Lib.hid hV
                have HSAT := Lib.hid hsat
                clear kk r0 r1 r2 r3 r4 r5 hc hsl hV hsat
                go_upto_region 13 with fail
                have hal := bal (Below.refl wr.heap.size wr) (.cells #[.bool r.choice, .slice x1 r.head.length y1, .bool r.sum, .int .i64 r.bound, .slice x2 r.body.length y2, .slice x3 r.w.length y3] 60)
                have HE1 := Lib.hid (HE.out.on hal)
                have HR1 : Hid (RuleIs (wr.alloc (.cells #[.bool r.choice, .slice x1 r.head.length y1, .bool r.sum, .int .i64 r.bound, .slice x2 r.body.length y2, .slice x3 r.w.length y3] 60)) (.agg #[.bool r.choice, .slice x1 r.head.length y1, .bool r.sum, .int .i64 r.bound, .slice x2 r.body.length y2, .slice x3 r.w.length y3]) r) := Lib.hid ⟨_, _, _, rfl, HSL.out.below hal⟩
                have HH1 := Lib.hid (HSL.out.head.below hal)
                have HD1 := Lib.hid (HSL.out.body.below hal)
                have HRB1 := Lib.hid (Blk.new wr [.bool r.choice, .slice x1 r.head.length y1, .bool r.sum, .int .i64 r.bound, .slice x2 r.body.length y2, .slice x3 r.w.length y3] 60)
                have kr1 := HRB1.out.cell
                have lr1 := HRB1.out.lt
                clear hal q0 q1 q2 q3 q4 q5 HSL
                generalize wr.alloc (.cells #[.bool r.choice, .slice x1 r.head.length y1, .bool r.sum, .int .i64 r.bound, .slice x2 r.body.length y2, .slice x3 r.w.length y3] 60) = W1 at *
                generalize wr.heap.size = rb at *
                cases hin : decide (a ∈ r.head) with
                | false =>
                  have HIN := Lib.hid hin
                  have HSK2 := Lib.hid (HSK.out (of_decide_eq_false hin))
                  clear hin HAT
                  go_wp2_with (go_at_call 29; (with_reducible refine (in1_call HIN.out HAI.out HH1.out).mono ?_); rintro e w7 ⟨rfl, hb7⟩; have HE7 := Lib.hid (HE1.out.on hb7); clear hb7)
                  first
                    | (go_roundw
                       case rel => (exact ⟨i + 1, hlt, by go_num, by rw [HSK2.out], HE7.out⟩)
                       case measure => (simp [intOf]; omega))
                    | (refine ⟨?_, ?_⟩
                       · (exact ⟨i + 1, hlt, by go_num, by rw [HSK2.out], HE7.out⟩)
                       · (simp [intOf]; omega))
                | true =>
                  have HIN := Lib.hid hin
                  obtain ⟨hk1, hk2, hk3⟩ := HAT.out (of_decide_eq_true hin)
                  have HK2 := Lib.hid hk2
                  have HK3 := Lib.hid hk3
                  clear hin HAT HSK hk2 hk3
                  generalize hkn : (blksTo p m a i).length = kN at *
                  clear hkn
                  go_upto_region 14 with (go_at_call 29; (with_reducible refine (in1_call HIN.out HAI.out HH1.out).mono ?_); rintro e w7 ⟨rfl, hb7⟩; have HE7 := Lib.hid (HE1.out.on hb7); have HR7 := Lib.hid (HR1.out.below hb7); have HH7 := Lib.hid (HH1.out.below hb7); have HD7 := Lib.hid (HD1.out.below hb7); have HRB7 := Lib.hid (HRB1.out.below hb7); have kr7 := HRB7.out.cell; have lr7 := HRB7.out.lt; (try (have HKB7 := Lib.hid (HKB1.out.below hb7); have kb7 := HKB7.out.cell; have lb7 := HKB7.out.lt)); clear hb7)
                  clear kr1
                  obtain ⟨a', c', e', -, -, -, hcl⟩ := HE7.out.blk.form
                  simp only [Value.slice.injEq, true_and] at e'
                  obtain ⟨rfl, rfl⟩ := e'
                  obtain ⟨b', off', rfl, hb', hc'⟩ := hcl (by omega)
                  have HBI := Lib.hid (HE7.out.blk.2 _ (ixK_mem0 hk1))
                  obtain ⟨hc0, hc1, hc2⟩ := hc' kN hk1
                  rw [HK2.out] at hc0 hc1 hc2 HBI
                  clear hcl hc'
                  cases hbt : bodyT r m with
                  | false =>
                    have HBT := Lib.hid hbt
                    cases hs : r.sum with
                    | false =>
                      obtain ⟨x, hx1, hx2, hx3⟩ := blkB_1 (i := (i : Int)) hbt hs
                      have HXI : Hid (InI x) := Lib.hid (by have := HBI.out; rw [hx1] at this; exact this.2.2)
                      rw [hx1] at hc0 hc1 hc2
                      dsimp only at hc0 hc1 hc2
                      have HX2 := Lib.hid hx2
                      have HXB : Hid (decide (x ∈ r.body) = true) := Lib.hid (decide_eq_true hx2)
                      have HX3 := Lib.hid hx3
                      clear hx1 hx2 hx3 hbt
                      rw [hs] at HRB7 HR7
                      clear hs
                      go_upto_region 17 with fail
                      have hb8 := bal (Below.refl w7.heap.size w7) (.cells #[.int .i64 (i : Nat), .int .u8 1, .int .i64 x] 65)
                      have HKB8 := Lib.hid (Blk.new w7 [.int .i64 (i : Nat), .int .u8 1, .int .i64 x] 65)
                      have kb8 := HKB8.out.cell
                      have lb8 := HKB8.out.lt
                      have HE8 := Lib.hid (HE7.out.on hb8); have HR8 := Lib.hid (HR7.out.below hb8); have HH8 := Lib.hid (HH7.out.below hb8); have HD8 := Lib.hid (HD7.out.below hb8); have HRB8 := Lib.hid (HRB7.out.below hb8); have kr8 := HRB8.out.cell; have lr8 := HRB8.out.lt; (try (have HKB8 := Lib.hid (HKB7.out.below hb8); have kb8 := HKB8.out.cell; have lb8 := HKB8.out.lt))
                      clear hb8 hc0 hc1 hc2 kr7
                      generalize w7.alloc (.cells #[.int .i64 (i : Nat), .int .u8 1, .int .i64 x] 65) = W8 at *
                      generalize w7.heap.size = kb0 at *
                      go_wp2_with (first
                        | (go_at_call 32; (with_reducible refine (lit_call HX3.out HBV.out HX2.out HXI.out (by omega) HE9.out.set).mono ?_); rintro e w10 ⟨rfl, hb10⟩; have HE10 := Lib.hid (HE9.out.on hb10); have HR10 := Lib.hid (HR9.out.below hb10); have HH10 := Lib.hid (HH9.out.below hb10); have HD10 := Lib.hid (HD9.out.below hb10); have HRB10 := Lib.hid (HRB9.out.below hb10); have kr10 := HRB10.out.cell; have lr10 := HRB10.out.lt; (try (have HKB10 := Lib.hid (HKB9.out.below hb10); have kb10 := HKB10.out.cell; have lb10 := HKB10.out.lt)); clear hb10)
                        | (go_at_call 29; (with_reducible refine (in1_call HXB.out HXI.out HD8.out).mono ?_); rintro e w9 ⟨rfl, hb9⟩; have HE9 := Lib.hid (HE8.out.on hb9); have HR9 := Lib.hid (HR8.out.below hb9); have HH9 := Lib.hid (HH8.out.below hb9); have HD9 := Lib.hid (HD8.out.below hb9); have HRB9 := Lib.hid (HRB8.out.below hb9); have kr9 := HRB9.out.cell; have lr9 := HRB9.out.lt; (try (have HKB9 := Lib.hid (HKB8.out.below hb9); have kb9 := HKB9.out.cell; have lb9 := HKB9.out.lt)); clear hb9))
                      first
                        | (go_roundw
                           case rel => (exact ⟨i + 1, hlt, by go_num, by rw [HK3.out]; go_num, HE10.out⟩)
                           case measure => (simp [intOf]; omega))
                        | (refine ⟨?_, ?_⟩
                           · (exact ⟨i + 1, hlt, by go_num, by rw [HK3.out]; go_num, HE10.out⟩)
                           · (simp [intOf]; omega))
                    | true =>
                      have hx1 := blkB_2 (i := (i : Int)) hbt hs
                      rw [hx1] at hc0 hc1 hc2
                      dsimp only at hc0 hc1 hc2
                      clear hx1 hbt
                      rw [hs] at HRB7 HR7
                      clear hs
                      go_upto_region 17 with fail
                      have hb8 := bal (Below.refl w7.heap.size w7) (.cells #[.int .i64 (i : Nat), .int .u8 2, .int .i64 0] 65)
                      have HKB8 := Lib.hid (Blk.new w7 [.int .i64 (i : Nat), .int .u8 2, .int .i64 0] 65)
                      have kb8 := HKB8.out.cell
                      have lb8 := HKB8.out.lt
                      have HE8 := Lib.hid (HE7.out.on hb8); have HR8 := Lib.hid (HR7.out.below hb8); have HH8 := Lib.hid (HH7.out.below hb8); have HD8 := Lib.hid (HD7.out.below hb8); have HRB8 := Lib.hid (HRB7.out.below hb8); have kr8 := HRB8.out.cell; have lr8 := HRB8.out.lt; (try (have HKB8 := Lib.hid (HKB7.out.below hb8); have kb8 := HKB8.out.cell; have lb8 := HKB8.out.lt))
                      clear hb8 hc0 hc1 hc2 kr7
                      generalize w7.alloc (.cells #[.int .i64 (i : Nat), .int .u8 2, .int .i64 0] 65) = W8 at *
                      generalize w7.heap.size = kb0 at *
                      go_wp2_with (go_at_call 32; (with_reducible refine (rBody_any _ _ r m _ HR8.out HE8.out.set (by omega) HBV.out).mono ?_); rintro e w9 ⟨e9, hb9⟩; rw [HBT.out] at e9; subst e9; have HE9 := Lib.hid (HE8.out.on hb9); have HR9 := Lib.hid (HR8.out.below hb9); have HH9 := Lib.hid (HH8.out.below hb9); have HD9 := Lib.hid (HD8.out.below hb9); have HRB9 := Lib.hid (HRB8.out.below hb9); have kr9 := HRB9.out.cell; have lr9 := HRB9.out.lt; (try (have HKB9 := Lib.hid (HKB8.out.below hb9); have kb9 := HKB9.out.cell; have lb9 := HKB9.out.lt)); clear hb9)
                      first
                        | (go_roundw
                           case rel => (exact ⟨i + 1, hlt, by go_num, by rw [HK3.out]; go_num, HE9.out⟩)
                           case measure => (simp [intOf]; omega))
                        | (refine ⟨?_, ?_⟩
                           · (exact ⟨i + 1, hlt, by go_num, by rw [HK3.out]; go_num, HE9.out⟩)
                           · (simp [intOf]; omega))
                  | true =>
                    have HBT := Lib.hid hbt
                    cases hch : r.choice with
                    | true =>
                      have hx1 := blkB_4 (i := (i : Int)) hbt hch
                      rw [hx1] at hc0 hc1 hc2
                      dsimp only at hc0 hc1 hc2
                      clear hx1 hbt
                      rw [hch] at HRB7 HR7
                      clear hch
                      go_upto_region 17 with fail
                      have hb8 := bal (Below.refl w7.heap.size w7) (.cells #[.int .i64 (i : Nat), .int .u8 4, .int .i64 0] 65)
                      have HKB8 := Lib.hid (Blk.new w7 [.int .i64 (i : Nat), .int .u8 4, .int .i64 0] 65)
                      have kb8 := HKB8.out.cell
                      have lb8 := HKB8.out.lt
                      have HE8 := Lib.hid (HE7.out.on hb8); have HR8 := Lib.hid (HR7.out.below hb8); have HH8 := Lib.hid (HH7.out.below hb8); have HD8 := Lib.hid (HD7.out.below hb8); have HRB8 := Lib.hid (HRB7.out.below hb8); have kr8 := HRB8.out.cell; have lr8 := HRB8.out.lt; (try (have HKB8 := Lib.hid (HKB7.out.below hb8); have kb8 := HKB8.out.cell; have lb8 := HKB8.out.lt))
                      clear hb8 hc0 hc1 hc2 kr7
                      generalize w7.alloc (.cells #[.int .i64 (i : Nat), .int .u8 4, .int .i64 0] 65) = W8 at *
                      generalize w7.heap.size = kb0 at *
                      go_wp2_with (go_at_call 32; (with_reducible refine (rBody_any _ _ r m _ HR8.out HE8.out.set (by omega) HBV.out).mono ?_); rintro e w9 ⟨e9, hb9⟩; rw [HBT.out] at e9; subst e9; have HE9 := Lib.hid (HE8.out.on hb9); have HR9 := Lib.hid (HR8.out.below hb9); have HH9 := Lib.hid (HH8.out.below hb9); have HD9 := Lib.hid (HD8.out.below hb9); have HRB9 := Lib.hid (HRB8.out.below hb9); have kr9 := HRB9.out.cell; have lr9 := HRB9.out.lt; (try (have HKB9 := Lib.hid (HKB8.out.below hb9); have kb9 := HKB9.out.cell; have lb9 := HKB9.out.lt)); clear hb9)
                      first
                        | (go_roundw
                           case rel => (exact ⟨i + 1, hlt, by go_num, by rw [HK3.out]; go_num, HE9.out⟩)
                           case measure => (simp [intOf]; omega))
                        | (refine ⟨?_, ?_⟩
                           · (exact ⟨i + 1, hlt, by go_num, by rw [HK3.out]; go_num, HE9.out⟩)
                           · (simp [intOf]; omega))
                    | false =>
                      obtain ⟨x, hx1, hx2, hx3⟩ := blkB_3 (i := (i : Int)) hbt hch HSAT.out
                      have HXI : Hid (InI x) := Lib.hid (by have := HBI.out; rw [hx1] at this; exact this.2.2)
                      have hxa : (x != a) = true := by
                        have : x ≠ a := fun e => of_decide_eq_false HAM.out (e ▸ hx3)
                        simp [this]
                      rw [hx1] at hc0 hc1 hc2
                      dsimp only at hc0 hc1 hc2
                      have HXH : Hid (decide (x ∈ r.head) = true) := Lib.hid (decide_eq_true hx2)
                      have HXM : Hid (decide (x ∈ m) = true) := Lib.hid (decide_eq_true hx3)
                      clear hx1 hx2 hx3 hbt
                      rw [hch] at HRB7 HR7
                      clear hch
                      go_upto_region 17 with fail
                      have hb8 := bal (Below.refl w7.heap.size w7) (.cells #[.int .i64 (i : Nat), .int .u8 3, .int .i64 x] 65)
                      have HKB8 := Lib.hid (Blk.new w7 [.int .i64 (i : Nat), .int .u8 3, .int .i64 x] 65)
                      have kb8 := HKB8.out.cell
                      have lb8 := HKB8.out.lt
                      have HE8 := Lib.hid (HE7.out.on hb8); have HR8 := Lib.hid (HR7.out.below hb8); have HH8 := Lib.hid (HH7.out.below hb8); have HD8 := Lib.hid (HD7.out.below hb8); have HRB8 := Lib.hid (HRB7.out.below hb8); have kr8 := HRB8.out.cell; have lr8 := HRB8.out.lt; (try (have HKB8 := Lib.hid (HKB7.out.below hb8); have kb8 := HKB8.out.cell; have lb8 := HKB8.out.lt))
                      clear hb8 hc0 hc1 hc2 kr7
                      generalize w7.alloc (.cells #[.int .i64 (i : Nat), .int .u8 3, .int .i64 x] 65) = W8 at *
                      generalize w7.heap.size = kb0 at *
                      go_wp2_with (first
                        | (go_at_call 29; (with_reducible refine (in1_call HXM.out HXI.out HE10.out.set).mono ?_); rintro e w11 ⟨rfl, hb11⟩; have HE11 := Lib.hid (HE10.out.on hb11); have HR11 := Lib.hid (HR10.out.below hb11); have HH11 := Lib.hid (HH10.out.below hb11); have HD11 := Lib.hid (HD10.out.below hb11); have HRB11 := Lib.hid (HRB10.out.below hb11); have kr11 := HRB11.out.cell; have lr11 := HRB11.out.lt; (try (have HKB11 := Lib.hid (HKB10.out.below hb11); have kb11 := HKB11.out.cell; have lb11 := HKB11.out.lt)); clear hb11)
                        | (go_at_call 29; (with_reducible refine (in1_call HXH.out HXI.out HH9.out).mono ?_); rintro e w10 ⟨rfl, hb10⟩; have HE10 := Lib.hid (HE9.out.on hb10); have HR10 := Lib.hid (HR9.out.below hb10); have HH10 := Lib.hid (HH9.out.below hb10); have HD10 := Lib.hid (HD9.out.below hb10); have HRB10 := Lib.hid (HRB9.out.below hb10); have kr10 := HRB10.out.cell; have lr10 := HRB10.out.lt; (try (have HKB10 := Lib.hid (HKB9.out.below hb10); have kb10 := HKB10.out.cell; have lb10 := HKB10.out.lt)); clear hb10)
                        | (go_at_call 32; (with_reducible refine (rBody_any _ _ r m _ HR8.out HE8.out.set (by omega) HBV.out).mono ?_); rintro e w9 ⟨e9, hb9⟩; rw [HBT.out] at e9; subst e9; have HE9 := Lib.hid (HE8.out.on hb9); have HR9 := Lib.hid (HR8.out.below hb9); have HH9 := Lib.hid (HH8.out.below hb9); have HD9 := Lib.hid (HD8.out.below hb9); have HRB9 := Lib.hid (HRB8.out.below hb9); have kr9 := HRB9.out.cell; have lr9 := HRB9.out.lt; (try (have HKB9 := Lib.hid (HKB8.out.below hb9); have kb9 := HKB9.out.cell; have lb9 := HKB9.out.lt)); clear hb9))
                      first
                        | (go_roundw
                           case rel => (exact ⟨i + 1, hlt, by go_num, by rw [HK3.out]; go_num, HE11.out⟩)
                           case measure => (simp [intOf]; omega))
                        | (refine ⟨?_, ?_⟩
                           · (exact ⟨i + 1, hlt, by go_num, by rw [HK3.out]; go_num, HE11.out⟩)
                           · (simp [intOf]; omega))
              · obtain rfl : i = p.rules.length := by omega
                rw [HLL.out]
                go_wp2_with (go_at_call 12; (with_reducible refine (awake41_any _).mono ?_); rintro e w9 ⟨rfl, hb9⟩; have HS9 := Lib.hid (HE.out.st.on hb9); clear hb9)
                go_ret
                exact ⟨rfl, HS9.out.below⟩
    · have hveq : (validE p != 0) = true := by simp [hv]
      clear hv
      go_wp2_with (first | (go_at_call 12; (with_reducible refine (awake41_any _).mono ?_); rintro e w9 ⟨rfl, hb9⟩; have HS9 := Lib.hid (HS2.out.on hb9); have kx9 := HS9.out.box.cell; clear hb9) | (go_at_call 27; (with_reducible refine (valid_any _ p w1 HS1.out.prog).mono ?_); rintro e w2 ⟨rfl, hb2⟩; have HS2 := Lib.hid (HS1.out.on hb2); have kx2 := HS2.out.box.cell; clear hb2) | (go_at_call 11; (with_reducible refine (few17_any _ p _ HS0.out.prog).mono ?_); rintro e w1 ⟨h1, hb1⟩; rw [HFW.out] at h1; subst h1; have HS1 := Lib.hid (HS0.out.on hb1); have kx1 := HS1.out.box.cell; clear hb1))
      go_ret
      exact ⟨rfl, HS9.out.below⟩
theorem eblocks_law {W : World} {vp : Value} {p : GP} (hP : ProgIs W vp p) (x : Int) (_hx : (Lit.int .u16 x).wf = true) (y : Int) (hy : (Lit.int .u8 y).wf = true) :
    Calls Tryz.prog 6 #[vp, .int .u16 x, .int .u8 y] W fun e W' => e = .returned (.bool true) ∧ Below W.heap.size W W' :=
  eblocks_any vp p x y W hP (bounds_u8 hy)
end Go.Proofs.YtfajkmmmmmfhiaaGreatDoor
