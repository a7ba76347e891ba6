/- My texts CpC, Grw0, CpV, Perm5, PermK, merged. -/
import Derived.Test.YtjodocheiejkeaaGreatDoorM11
import Derived.Test.YtjodocheiejkeaaGreatDoorM32
import Derived.Test.YtjodocheiejkeaaGreatDoorM10
import Derived.Test.YtjodocheiejkeaaGreatDoorM09
import Derived.Test.YtjodocheiejkeaaGreatDoorM08
import Derived.Test.YtjodocheiejkeaaGreatDoorM04
import Derived.Test.YtjodocheiejkeaaGreatDoorM28
import Derived.Test.YtjodocheiejkeaaGreatDoorM00
import Derived.Test.YtjodocheiejkeaaGreatDoorProg
import Derived.WalkKit
import Derived.Lib.Hide
import Derived.Deep.QuietTactic
import Derived.BigQuiet
import Derived.Test.YtjodocheiejkeaaGreatDoorM07
import Derived.Test.YtjodocheiejkeaaGreatDoorM03
import Derived.Test.YtjodocheiejkeaaGreatDoorM02
import Derived.WalkSpells
import Derived.Lib.SliceRun
import Derived.MapKept
import Derived.Maps.OwnSet
import Derived.Maps.OwnOps
import Derived.Test.YtjodocheiejkeaaGreatDoorM01
import Derived.Deep.AppendLies
import Derived.Lib.Bytealg
import Derived.Deep.DeepCutAuto
import Derived.RangeFuncNested
import Derived.RangeFuncBound
import Derived.RangeFuncCalls
import Derived.RangeFuncLeaves
import Derived.OwnWalkIn
import Derived.TacticsInMore
import Derived.LoopNIn
import Derived.LoopIn
import Derived.Stop.RegionWithIn
import Derived.Shelf.Abstract
import Derived.Maps.RangeWalk
import Derived.Lib.SlicesCompact
import Derived.Shelf.Sort.Plain
import Derived.Shelf.Slices.CompactI
import Derived.Shelf.Slices.In.SortNone
import Derived.Shelf.Strconv.Itoa3
import Derived.Shelf.Strings.BuilderK
import Derived.Sort.OwnSortedInts
import Derived.Sort.QuietThIn
import Derived.RangeFuncBox
import Derived.Maps.OwnIn
import Derived.Lib.RowBridge
import Derived.Deep.OwnRows
import Derived.Test.YtjodocheiejkeaaGreatDoorM05
import Derived.Deep.DeepMust
import Derived.Deep.AppendSrc
import Derived.Test.YtjodocheiejkeaaGreatDoorM06
import Derived.Laws.EntriesVeiled
import Derived.Test.YtjodocheiejkeaaGreatDoorM12

namespace Go.Proofs.YtjodocheiejkeaaGreatDoor
open Go.RowKit
theorem infoC : (Tryz.prog.info? 46).map (fun i => (i.zero, i.size, i.bytes)) = some (some (.agg #[.slice none 0 0, .slice none 0 0, .int .i64 0]), 3, 56) := by kernel_rfl
section
variable {B ob n : Nat} {xs : List Value} {v : Value} {w w' W2 w3 : World} {L : List CQ}
theorem outC_push {g cap : Nat} {q : CQ} {A : Nat → Prop} (hA : ∀ q ∈ L, ∀ g, (q.2.1.ownBlock = some g ∨ q.2.2.ownBlock = some g) → ¬ A g) (hAq : ∀ g, (q.2.1.ownBlock = some g ∨ q.2.2.ownBlock = some g) → ¬ A g) (hob : Blk W2 ob [v] 34) (hm : MineC B v L W2) (hB : B ≤ ob)
    (hq : QRow B W2 q.2.1 q.1.lits ∧ QRow B W2 q.2.2 q.1.coefs ∧ InI q.1.bound ∧ q.1.lits.length ≤ 65536 ∧ q.1.coefs.length ≤ 65536)
    (hown : w3.ownsRow B 46 3 (.slice (some ⟨g, 0, none⟩) (L.length + 1) cap) (L.length + 1) (L.flatMap cells3 ++ cells3 q)) (hg : W2.grownBy w3 v.ownBlock) :
    Blk w3 ob [v] 34 ∧ OutC B ob A (L.map (·.1) ++ [q.1]) (w3.setCell ⟨ob, 0, none⟩ (.slice (some ⟨g, 0, none⟩) (L.length + 1) cap)) ∧ CLim B W2 (w3.setCell ⟨ob, 0, none⟩ (.slice (some ⟨g, 0, none⟩) (L.length + 1) cap)) := by
  have h3 : Blk w3 ob [v] 34 := hob.same (hg.block ob hob.lt fun e => by
    rcases hm.row.2 with ⟨rfl, _⟩ | ⟨g', cap', cur, rfl, _, hgg, _⟩
    · cases e
    · have : g' = ob := by simpa [Value.ownBlock] using e.symm
      subst this
      unfold Blk at hob
      rw [hgg] at hob
      have := Option.some.inj hob
      injection this with _ h3 _
      revert h3; decide)
  have hp := hm.push hq hown hg
  refine ⟨h3, ⟨_, L ++ [q], h3.set 0 _, hp.setOther h3 (by decide) (by decide) _, by simp, fun q' hq' => by
    rcases List.mem_append.1 hq' with hq' | hq'
    · exact hA q' hq'
    · obtain rfl : q' = q := by simpa using hq'
      exact hAq⟩, (CLim.grown hm.row hg).trans ?_⟩
  exact ⟨rfl, rfl, rfl, by simp [World.setCell], fun i hi hn => Below.heap_setCell _ _ _ _ fun e => by
    subst e
    exact hn hB ⟨_, _, .inl h3⟩⟩
end
set_option maxHeartbeats 4000000 in
set_option maxRecDepth 100000 in
theorem cput_any {B ob : Nat} {A : Nat → Prop} (vl vk : Value) (l k : List Int) (bd : Int) (lst : List PBC) (w : World) (hl : Ints w vl l) (hk : Ints w vk k) (hbd : InI bd) (ho : OutC B ob A lst w) (hAw : ∀ g, A g → g < w.heap.size) (hB : B ≤ ob) (hlen : lst.length ≤ 1000000000) :
    Calls Tryz.prog 34 #[vl, vk, .int .i64 bd, .pointer (some ⟨ob, 0, none⟩)] w fun e w' => e = .returned (.tuple #[]) ∧ OutC B ob A (lst ++ [(normP l k bd).1]) w' ∧ CLim B w w' := by
  obtain ⟨i0, hi, hz0, hz1, hz2⟩ := info_parts infoC
  obtain ⟨v, L, hob, hm, rfl, ha⟩ := ho
  have HA := Lib.hid ha
  have HAW := Lib.hid hAw
  clear ha hAw
  rw [List.length_map] at hlen
  obtain ⟨av, nv, cv, rfl⟩ : ∃ a n c, v = .slice a n c := by
    rcases hm.row.2 with ⟨rfl, _⟩ | ⟨g, cap, cur, rfl, _⟩ <;> exact ⟨_, _, _, rfl⟩
  obtain ⟨a1, c1, rfl, -⟩ := hl.form
  obtain ⟨a2, c2, rfl, -⟩ := hk.form
  have HL := Lib.hid hl
  have HK := Lib.hid hk
  have HBD := Lib.hid hbd
  have HO := Lib.hid hob
  have HM := Lib.hid hm
  have hlob := hob.lt
  obtain ⟨⟨c, er⟩, hc⟩ : ∃ c, normP l k bd = c := ⟨_, rfl⟩
  rw [hc]
  have HC := Lib.hid hc
  clear hl hk hbd hob hm hc
  go_enter Tryz.func34, Tryz.ntmps34
  go_upto_region 1 with (go_at_call 35; (with_reducible refine (norm_any _ _ l k bd w HL.out HK.out HBD.out).mono ?_); rintro e w1 ⟨vp, e1, hq, hb1⟩; rw [HC.out] at e1 hq; subst e1; obtain ⟨vl, vk, rfl, hq1, hq2, hq3⟩ := hq; obtain ⟨al, cl, rfl⟩ := hq1.slen; obtain ⟨ak, ck, rfl⟩ := hq2.slen; have HAQ : Hid (∀ g, ((Value.slice al c.lits.length cl).ownBlock = some g ∨ (Value.slice ak c.coefs.length ck).ownBlock = some g) → ¬ A g) := Lib.hid (fun g e ha => by have h0 := HAW.out g ha; rcases e with e | e; (have := (hq1.base e).1; omega); (have := (hq2.base e).1; omega)); have HQA := Lib.hid (hq1.mono (Nat.le_trans hB (Nat.le_of_lt hlob))); have HQB := Lib.hid (hq2.mono (Nat.le_trans hB (Nat.le_of_lt hlob))); have HQC := Lib.hid hq3; have HB1 := Lib.hid hb1; clear hq1 hq2 hq3 hb1)
  have hal1 := bal (Below.refl w1.heap.size w1) (.cells #[.slice al c.lits.length cl, .slice ak c.coefs.length ck, .int .i64 c.bound] 46)
  have kc1 := (Blk.new w1 [.slice al c.lits.length cl, .slice ak c.coefs.length ck, .int .i64 c.bound] 46).cell
  have HB01 := Lib.hid (bon HB1.out hal1)
  have HQ1 : Hid (QRow B (w1.alloc (.cells #[.slice al c.lits.length cl, .slice ak c.coefs.length ck, .int .i64 c.bound] 46)) (.slice al c.lits.length cl) c.lits ∧ QRow B (w1.alloc (.cells #[.slice al c.lits.length cl, .slice ak c.coefs.length ck, .int .i64 c.bound] 46)) (.slice ak c.coefs.length ck) c.coefs) := Lib.hid ⟨HQA.out.below hal1, HQB.out.below hal1⟩
  clear hal1
  generalize w1.alloc (.cells #[.slice al c.lits.length cl, .slice ak c.coefs.length ck, .int .i64 c.bound] 46) = W1 at *
  have ko1 := (HO.out.below HB01.out).cell 0
  have hal2 := bal (Below.refl W1.heap.size W1) (.cells #[.slice al c.lits.length cl, .slice ak c.coefs.length ck, .int .i64 c.bound] 46)
  have HB02 := Lib.hid (bon HB01.out hal2)
  have HO2 := Lib.hid (HO.out.below HB02.out)
  have HM2 := Lib.hid (HM.out.below HB02.out)
  have HQ2 := Lib.hid (And.intro (HQ1.out.1.below hal2) (And.intro (HQ1.out.2.below hal2) HQC.out))
  have hnw := Blk.new W1 [.slice al c.lits.length cl, .slice ak c.coefs.length ck, .int .i64 c.bound] 46
  have HNW : Hid (∀ j u, [Value.slice al c.lits.length cl, .slice ak c.coefs.length ck, .int .i64 c.bound][j]? = some u → (W1.alloc (.cells #[.slice al c.lits.length cl, .slice ak c.coefs.length ck, .int .i64 c.bound] 46)).cell? ((⟨W1.heap.size, 0, none⟩ : Addr).add j) = some u) := Lib.hid (fun j u hu => by rw [Addr.add_lit, Nat.zero_add]; exact (hnw.cell j).trans hu)
  have HONE : Hid (∀ u ∈ [Value.slice al c.lits.length cl, .slice ak c.coefs.length ck, .int .i64 c.bound], u.oneCell' = true) := Lib.hid (fun u hu => by simp only [List.mem_cons, List.not_mem_nil, or_false] at hu; rcases hu with rfl | rfl | rfl <;> rfl)
  have hob1 : ob < W1.heap.size := (HO.out.below HB01.out).lt
  have hBW := HB01.out.size
  clear hal2 hnw
  go_wp2_with (at_builtin; go_must (refine wpList_append_own _ rfl _ _ 34 rfl B 46 i0 _ 3 56 Tryz.underlying34 hi hz0 hz1 hz2 rfl (by decide) _ L.length (L.flatMap cells3) rfl HM2.out.row ⟨W1.heap.size, 0, none⟩ 1 1 _ rfl rfl HNW.out HONE.out (by unfold maxLen; omega) (by omega) (by simp; omega) ?_); intro v' w3 hown hgrow _; obtain ⟨g', cap', rfl⟩ := ownsRow_succ hown; obtain ⟨hp1, hp2, hp3⟩ := outC_push (q := (c, .slice al c.lits.length cl, .slice ak c.coefs.length ck)) HA.out HAQ.out HO2.out HM2.out hB HQ2.out hown hgrow; have kp3 := hp1.cell 0; have kf3 := hp1.free 0; have HP2 := Lib.hid hp2; have HP3 := Lib.hid hp3; clear hown hgrow hp1 hp2 hp3)
  go_end0
  exact ⟨rfl, HP2.out, (CLim.of_below HB02.out).trans HP3.out⟩
set_option maxHeartbeats 4000000 in
set_option maxRecDepth 100000 in
theorem cclause_any {B ob : Nat} {A : Nat → Prop} (vl : Value) (l : List Int) (lst : List PBC) (w : World) (hl : Ints w vl l) (ho : OutC B ob A lst w) (hAw : ∀ g, A g → g < w.heap.size) (hB : B ≤ ob) (hlen : lst.length ≤ 1000000000) :
    Calls Tryz.prog 36 #[vl, .pointer (some ⟨ob, 0, none⟩)] w fun e w' => e = .returned (.tuple #[]) ∧ OutC B ob A (lst ++ [(clauseP l).1]) w' ∧ CLim B w w' := by
  obtain ⟨i0, hi, hz0, hz1, hz2⟩ := info_parts infoC
  obtain ⟨v, L, hob, hm, rfl, ha⟩ := ho
  have HA := Lib.hid ha
  have HAW := Lib.hid hAw
  clear ha hAw
  rw [List.length_map] at hlen
  obtain ⟨av, nv, cv, rfl⟩ : ∃ a n c, v = .slice a n c := by
    rcases hm.row.2 with ⟨rfl, _⟩ | ⟨g, cap, cur, rfl, _⟩ <;> exact ⟨_, _, _, rfl⟩
  obtain ⟨a1, c1, rfl, -⟩ := hl.form
  have HL := Lib.hid hl
  have HO := Lib.hid hob
  have HM := Lib.hid hm
  have hlob := hob.lt
  obtain ⟨⟨c, er⟩, hc⟩ : ∃ c, clauseP l = c := ⟨_, rfl⟩
  rw [hc]
  have HC := Lib.hid hc
  clear hl hob hm hc
  go_enter Tryz.func36, Tryz.ntmps36
  go_upto_region 1 with (go_at_call 18; (with_reducible refine (clause_any _ l w HL.out).mono ?_); rintro e w1 ⟨vp, e1, hq, hb1⟩; rw [HC.out] at e1 hq; subst e1; obtain ⟨vl, vk, rfl, hq1, hq2, hq3⟩ := hq; obtain ⟨al, cl, rfl⟩ := hq1.slen; obtain ⟨ak, ck, rfl⟩ := hq2.slen; have HAQ : Hid (∀ g, ((Value.slice al c.lits.length cl).ownBlock = some g ∨ (Value.slice ak c.coefs.length ck).ownBlock = some g) → ¬ A g) := Lib.hid (fun g e ha => by have h0 := HAW.out g ha; rcases e with e | e; (have := (hq1.base e).1; omega); (have := (hq2.base e).1; omega)); have HQA := Lib.hid (hq1.mono (Nat.le_trans hB (Nat.le_of_lt hlob))); have HQB := Lib.hid (hq2.mono (Nat.le_trans hB (Nat.le_of_lt hlob))); have HQC := Lib.hid hq3; have HB1 := Lib.hid hb1; clear hq1 hq2 hq3 hb1)
  have hal1 := bal (Below.refl w1.heap.size w1) (.cells #[.slice al c.lits.length cl, .slice ak c.coefs.length ck, .int .i64 c.bound] 46)
  have kc1 := (Blk.new w1 [.slice al c.lits.length cl, .slice ak c.coefs.length ck, .int .i64 c.bound] 46).cell
  have HB01 := Lib.hid (bon HB1.out hal1)
  have HQ1 : Hid (QRow B (w1.alloc (.cells #[.slice al c.lits.length cl, .slice ak c.coefs.length ck, .int .i64 c.bound] 46)) (.slice al c.lits.length cl) c.lits ∧ QRow B (w1.alloc (.cells #[.slice al c.lits.length cl, .slice ak c.coefs.length ck, .int .i64 c.bound] 46)) (.slice ak c.coefs.length ck) c.coefs) := Lib.hid ⟨HQA.out.below hal1, HQB.out.below hal1⟩
  clear hal1
  generalize w1.alloc (.cells #[.slice al c.lits.length cl, .slice ak c.coefs.length ck, .int .i64 c.bound] 46) = W1 at *
  have ko1 := (HO.out.below HB01.out).cell 0
  have hal2 := bal (Below.refl W1.heap.size W1) (.cells #[.slice al c.lits.length cl, .slice ak c.coefs.length ck, .int .i64 c.bound] 46)
  have HB02 := Lib.hid (bon HB01.out hal2)
  have HO2 := Lib.hid (HO.out.below HB02.out)
  have HM2 := Lib.hid (HM.out.below HB02.out)
  have HQ2 := Lib.hid (And.intro (HQ1.out.1.below hal2) (And.intro (HQ1.out.2.below hal2) HQC.out))
  have hnw := Blk.new W1 [.slice al c.lits.length cl, .slice ak c.coefs.length ck, .int .i64 c.bound] 46
  have HNW : Hid (∀ j u, [Value.slice al c.lits.length cl, .slice ak c.coefs.length ck, .int .i64 c.bound][j]? = some u → (W1.alloc (.cells #[.slice al c.lits.length cl, .slice ak c.coefs.length ck, .int .i64 c.bound] 46)).cell? ((⟨W1.heap.size, 0, none⟩ : Addr).add j) = some u) := Lib.hid (fun j u hu => by rw [Addr.add_lit, Nat.zero_add]; exact (hnw.cell j).trans hu)
  have HONE : Hid (∀ u ∈ [Value.slice al c.lits.length cl, .slice ak c.coefs.length ck, .int .i64 c.bound], u.oneCell' = true) := Lib.hid (fun u hu => by simp only [List.mem_cons, List.not_mem_nil, or_false] at hu; rcases hu with rfl | rfl | rfl <;> rfl)
  have hob1 : ob < W1.heap.size := (HO.out.below HB01.out).lt
  have hBW := HB01.out.size
  clear hal2 hnw
  go_wp2_with (at_builtin; go_must (refine wpList_append_own _ rfl _ _ 34 rfl B 46 i0 _ 3 56 Tryz.underlying34 hi hz0 hz1 hz2 rfl (by decide) _ L.length (L.flatMap cells3) rfl HM2.out.row ⟨W1.heap.size, 0, none⟩ 1 1 _ rfl rfl HNW.out HONE.out (by unfold maxLen; omega) (by omega) (by simp; omega) ?_); intro v' w3 hown hgrow _; obtain ⟨g', cap', rfl⟩ := ownsRow_succ hown; obtain ⟨hp1, hp2, hp3⟩ := outC_push (q := (c, .slice al c.lits.length cl, .slice ak c.coefs.length ck)) HA.out HAQ.out HO2.out HM2.out hB HQ2.out hown hgrow; have kp3 := hp1.cell 0; have kf3 := hp1.free 0; have HP2 := Lib.hid hp2; have HP3 := Lib.hid hp3; clear hown hgrow hp1 hp2 hp3)
  go_end0
  exact ⟨rfl, HP2.out, (CLim.of_below HB02.out).trans HP3.out⟩
def negCells (l : List Int) (k : Nat) : List Value := (List.range l.length).map fun j => .int .i64 (if j < k then -(ix l j) else 0)
theorem negCells_set {l : List Int} {k : Nat} (hk : k < l.length) : (negCells l k).set k (.int .i64 (-(ix l k))) = negCells l (k + 1) := by
  unfold negCells
  refine List.ext_getElem? fun i => ?_
  by_cases hi : i < l.length
  · by_cases e : i = k
    · subst e
      rw [List.getElem?_set_self (by simpa using hi)]
      simp [hi]
    · rw [List.getElem?_set_ne (Ne.symm e)]
      simp only [List.getElem?_map, List.getElem?_range hi, Option.map_some]
      by_cases h1 : i < k
      · rw [if_pos h1, if_pos (by omega)]
      · rw [if_neg h1, if_neg (by omega)]
  · rw [List.getElem?_eq_none (by simp; omega), List.getElem?_eq_none (by simp; omega)]
theorem negCells_zero (l : List Int) : negCells l 0 = List.replicate l.length (.int .i64 0) := by
  unfold negCells
  rw [List.eq_replicate_iff]
  exact ⟨by simp, fun x hx => by obtain ⟨j, -, rfl⟩ := List.mem_map.1 hx; rfl⟩
theorem negCells_all (l : List Int) : negCells l l.length = (negL l).map (Value.int .i64) := by
  unfold negCells negL
  refine List.ext_getElem? fun i => ?_
  by_cases hi : i < l.length
  · simp only [List.getElem?_map, List.getElem?_range hi, Option.map_some, if_pos hi, List.getElem?_eq_getElem hi]
    rw [ix_get hi]
  · rw [List.getElem?_eq_none (by simp; omega), List.getElem?_eq_none (by simp; omega)]
def NegRel (W : World) (l : List Int) (i : Value) (wx : World) : Prop := ∃ k : Nat, k ≤ l.length ∧ i = .int .i64 k ∧ Below W.heap.size W wx ∧ Blk wx W.heap.size (negCells l k) 3
set_option maxHeartbeats 4000000 in
set_option maxRecDepth 100000 in
theorem negated_any (v : Value) (l : List Int) (w : World) (h : Ints w v l) (hn : ∀ x ∈ l, -1000000 ≤ x ∧ x ≤ 1000000) :
    Calls Tryz.prog 38 #[v] w fun e w' => ∃ v', e = .returned v' ∧ QRow w.heap.size w' v' (negL l) ∧ Below w.heap.size w w' := by
  obtain ⟨a1, c1, rfl, -, hl1, -, hcell⟩ := h.form
  have h8 : l.length * 8 ≤ 140737488351232 := by obtain ⟨⟨_, _, _, _, _, h, _⟩, _⟩ := h; exact h
  have HC := Lib.hid hcell
  have HN := Lib.hid hn
  have hmk : ∀ w : World, (Instr.makeSlice 23 (.int .i64 (l.length : Int)) (.int .i64 (l.length : Int))).run Tryz.prog w = .ok (.slice (some ⟨w.heap.size, 0, none⟩) l.length l.length) (w.alloc (.cells (madeCells #[.int .i64 0] l.length) 3)) := fun w => run_make_row' _ _ _ _ Tryz.underlying23 infoI rfl .i64 .i64 l.length (by omega) (by omega) w
  have hst : Below w.heap.size w (w.alloc (.cells (madeCells #[.int .i64 0] l.length) 3)) ∧ Blk (w.alloc (.cells (madeCells #[.int .i64 0] l.length) 3)) w.heap.size (negCells l 0) 3 := by
    refine ⟨bal (Below.refl _ _) _, ?_⟩
    have := Blk.new w (List.replicate l.length (Value.int .i64 0)) 3
    rw [← made_row] at this
    rw [negCells_zero]
    exact this
  have HST := Lib.hid hst
  clear h hcell hn hst
  go_enter Tryz.func38, Tryz.ntmps38
  go_upto_region 3 with fail
  clear hmk
  go_loopw [11] (fun i wx => NegRel w l i wx) (fun i _ => l.length - (intOf i).toNat)
  case atStart => exact ⟨0, Nat.zero_le _, rfl, HST.out.1, HST.out.2⟩
  case round =>
    obtain ⟨k, hk, rfl, hb, hbl⟩ := hrel
    have HB := Lib.hid hb
    by_cases hlt : k < l.length
    · obtain ⟨b, off, rfl, hbw, hc⟩ := HC.out (by omega)
      have kl := (bcell hb _ _ hbw).trans (hc k hlt)
      have kc := hbl.cell k
      have kf := hbl.free k
      have hg : (negCells l k)[k]? = some (.int .i64 0) := by simp [negCells, hlt]
      rw [hg] at kc
      have hx := HN.out _ (ix_mem hlt)
      have HN1 := Lib.hid (show Below w.heap.size w (wr.setCell ⟨w.heap.size, k, none⟩ (.int .i64 (-(ix l k)))) from hb.setCell (p := ⟨w.heap.size, k, none⟩) (Nat.le_refl _) _)
      have hbs := hbl.set k (.int .i64 (-(ix l k)))
      rw [negCells_set hlt] at hbs
      have HN2 := Lib.hid hbs
      clear hb hbl hc hg hbs
      go_wp2
      first
        | (go_roundw
           case rel => (exact ⟨k + 1, hlt, by go_num, HN1.out, HN2.out⟩)
           case measure => (simp [intOf]; omega))
        | (refine ⟨?_, ?_⟩
           · (exact ⟨k + 1, hlt, by go_num, HN1.out, HN2.out⟩)
           · (simp [intOf]; omega))
    · obtain rfl : k = l.length := by omega
      have hq : QRow w.heap.size wr (.slice (some ⟨w.heap.size, 0, none⟩) l.length l.length) (negL l) := by
        rw [negCells_all] at hbl
        have hlen : (negL l).length = l.length := negL_len l
        refine ⟨fitI fun x hx => by unfold negL at hx; obtain ⟨y, hy, rfl⟩ := List.mem_map.1 hx; have := HN.out y hy; unfold InI; omega, .inr ⟨w.heap.size, 0, l.length, _, by rw [hlen], Nat.le_refl _, hbl, by omega, by unfold maxLen; omega, by simp [negL], fun i hi => ?_⟩⟩
        rw [Nat.zero_add, List.getElem?_toArray]
        exact map_ix _ i hi
      have HQ := Lib.hid hq
      clear hq hb hbl
      go_wp2
      go_ret
      exact ⟨_, rfl, HQ.out, HB.out⟩
theorem anyR_is {n : Nat} {f : Nat → Bool} (h : anyR n f = true) : ∃ k, k < n ∧ f k = true := by
  apply Classical.byContradiction
  intro hn
  have : anyR n f = false := anyR_false (fun j hj => by
    cases e : f j with
    | false => rfl
    | true => exact (hn ⟨j, hj, e⟩).elim)
  rw [h] at this
  cases this
section
variable {p : GP} {a S : List Int} {v : Int}
end
theorem allR_imp {n : Nat} {f g : Nat → Bool} (h : allR n f = true) (hi : ∀ j, j < n → f j = true → g j = true) : allR n g = true := allR_true fun j hj => hi j hj (allR_get h j hj)
theorem allR_cong {n : Nat} {f g : Nat → Bool} (h : ∀ j, j < n → f j = g j) : allR n f = allR n g := by
  rw [Bool.eq_iff_iff]
  exact ⟨fun e => allR_imp e fun j hj e2 => by rw [← h j hj]; exact e2, fun e => allR_imp e fun j hj e2 => by rw [h j hj]; exact e2⟩
end Go.Proofs.YtjodocheiejkeaaGreatDoor
namespace Go.Proofs.YtjodocheiejkeaaGreatDoor
theorem ordered_len {l : List Int} {n : Int} (h : orderedB l n = true) (hn : 0 ≤ n) : (l.length : Int) ≤ 2 * n := by
  have hp : (l.map litKey).Pairwise (· < ·) := by
    rw [List.pairwise_iff_getElem]
    intro i j hi hj hij
    simp only [List.length_map] at hi hj
    have := ordered_lt h j hj i hij
    simpa [ix, List.getD_eq_getElem?_getD, List.getElem?_eq_getElem hi, List.getElem?_eq_getElem hj] using this
  have := lt_length (l.map litKey) 2 (2 * n + 2) hp (fun x hx => by
    obtain ⟨y, hy, rfl⟩ := List.mem_map.1 hx
    have := ordered_lit h hy
    unfold litKey
    split <;> omega) (by omega)
  simp at this; omega
theorem inc_lt {l : List Int} {n : Int} (h : increasingB l n = true) {i j : Nat} (hj : j < l.length) (hij : i < j) : ix l i < ix l j := by
  have h1 := ordered_lt (increasing_ordered h) j hj i hij
  have h2 := inc_pos h hj
  have h3 := inc_pos h (show i < l.length by omega)
  unfold litKey at h1
  rw [if_pos (by omega), if_pos (by omega)] at h1
  omega
theorem compV_valid {p : GP} (hv : validE p = 0) : CompV p := by
  have hP := validP hv
  have hn := hP.n
  refine ⟨hP.n, hP.rules, fun i hi => ?_⟩
  have hR := ruleE_at hv hi
  have hh := hP.head i hi
  have hb := hP.body i hi
  have ho : orderedB (ixR p.rules i).head p.n = true := by unfold increasingB at hh; rw [Bool.and_eq_true] at hh; exact hh.1
  refine ⟨hP.n, fun x hx => ?_, fun x hx => ordered_lit hb hx, ⟨?_, ?_⟩, fun hs => ?_⟩
  · obtain ⟨j, hj, rfl⟩ := mem_ix.1 hx
    have := inc_pos hh hj
    omega
  · have := ordered_len hb hn.1; omega
  · have := ordered_len ho hn.1; omega
  · obtain ⟨h1, h2, h3⟩ := weights_sum (hP.sum i hi hs)
    refine ⟨by omega, h2, (h3 _ (Nat.le_refl _)).2, hP.bound i hi, ?_⟩
    unfold ruleE at hR
    split at hR
    · omega
    split at hR
    · omega
    split at hR
    · omega
    split at hR
    · omega
    · rename_i h
      exact Classical.byContradiction fun hc => h (.inr ⟨hs, .inr (.inr (by omega))⟩)
theorem sumTo_mono {K : List Int} (h : ∀ j, j < K.length → 1 ≤ ix K j) : ∀ (n i : Nat), i ≤ n → n ≤ K.length → sumTo K i ≤ sumTo K n
  | 0, i, hi, _ => by obtain rfl : i = 0 := by omega
                      exact Int.le_refl _
  | n + 1, i, hi, hn => by
    by_cases e : i = n + 1
    · subst e; exact Int.le_refl _
    · have := sumTo_mono h n i (by omega) (by omega)
      have := h n (by omega)
      simp only [sumTo] at *
      omega
theorem CompV.counts {p : GP} (h : CompV p) : ∀ k, k ≤ p.rules.length → compNs p k ≤ 8002 * k
  | 0, _ => by simp [compNs]
  | k + 1, hk => by
    have ih := h.counts k (by omega)
    have := (h.rule k (by omega)).len
    unfold compNs compN
    split <;> split <;> omega
theorem CompV.lenTo {p : GP} (h : CompV p) {k : Nat} (hk : k ≤ p.rules.length) : (compTo p k).length ≤ 400000000 := by
  have h1 := h.counts k hk
  have h2 := h.rules
  rw [compTo_len]
  omega
def supIn (p : GP) (k j : Nat) (a : Int) : List Int := supAt' p a k ++ (if a ∈ (ixR p.rules k).head.take j then [p.n + 1 + k] else [])
theorem supIn_zero (p : GP) (k : Nat) : supIn p k 0 = fun a => supAt' p a k := by funext a; simp [supIn]
theorem supIn_all (p : GP) (k : Nat) : supIn p k (ixR p.rules k).head.length = fun a => supAt' p a (k + 1) := by funext a; simp [supIn, supAt']
theorem inc_nodup {l : List Int} {n : Int} (h : increasingB l n = true) {j : Nat} (hj : j < l.length) : ix l j ∉ l.take j := by
  intro hm
  obtain ⟨i, hi, e⟩ := mem_ix.1 hm
  rw [List.length_take] at hi
  have h1 := inc_lt h hj (show i < j by omega)
  have e2 : ix (l.take j) i = l[i]'(by omega) := by
    rw [ix_get (by rw [List.length_take]; omega)]
    exact List.getElem_take
  rw [e2, ← ix_get] at e
  omega
theorem supIn_next {p : GP} (hv : validE p = 0) {k j : Nat} (hk : k < p.rules.length) (hj : j < (ixR p.rules k).head.length) :
    supIn p k (j + 1) = setL' (supIn p k j) (ix (ixR p.rules k).head j) (supIn p k j (ix (ixR p.rules k).head j) ++ [p.n + 1 + k]) := by
  have hn := inc_nodup ((validP hv).head k hk) hj
  have ht : (ixR p.rules k).head.take (j + 1) = (ixR p.rules k).head.take j ++ [ix (ixR p.rules k).head j] := by
    rw [List.take_add_one, List.getElem?_eq_getElem hj, ix_get hj]; rfl
  funext a
  unfold setL' supIn
  rw [ht]
  by_cases e : a = ix (ixR p.rules k).head j
  · subst e
    rw [if_pos rfl, if_pos (by simp), if_neg hn, List.append_nil]
  · rw [if_neg e]
    have : (a ∈ (ixR p.rules k).head.take j ++ [ix (ixR p.rules k).head j]) ↔ a ∈ (ixR p.rules k).head.take j := by simp [e]
    simp only [this]
end Go.Proofs.YtjodocheiejkeaaGreatDoor
namespace Go.Proofs.YtjodocheiejkeaaGreatDoor
open Go.RowKit
theorem wp_agreeC {P : Program} {ops : Array Oper} {o : Oper} (hs : ∀ cs b, o.op ≠ .select cs b) {a b : Act} (h : Agree ops o a b) {w : World} (ht : tame o = true ∨ Enters P o a w) {K : Act → World → Prop} {Q : Exit → Act → World → Prop} (hw : o.wp P a w K (fun _ _ _ => False)) :
    o.wp P b w (fun b' w' => ∃ v, b' = b.put o.dst v ∧ K (a.put o.dst v) w') Q := by
  rcases ht with ht | ⟨f, args, w', hr⟩
  · exact wp_agree hs ht h hw
  · unfold Oper.wp at *
    rw [← execOp_congr o hs h.eval]
    rw [hr] at hw ⊢
    rw [Oper.upon_enter] at hw ⊢
    refine Calls.mono hw fun e w2 he => ?_
    cases e with
    | returned v => exact ⟨v, rfl, he⟩
    | panicked c => exact he.elim
    | outgrown => obtain ⟨_, _, h⟩ := he; exact h.elim
section
variable {P : Program} {l : List Oper} {w0 : World} {Φ : Nat → List Value → Value → Nat → Nat → World → Prop} {ism : Nat → Bool} {D : Nat → Nat → Bool} {Q : Exit → Act → World → Prop} {E : Act → World → Prop} {Cl : Nat → World → Prop} {n : Nat} {a0 : Act}
end
section
variable {P : Program} {l : List Oper} {s : List Nat} {Q : Exit → Act → World → Prop}
end
section
variable {P : Program} {l : List Oper} {D : Nat → Nat → Bool} {Q : Exit → Act → World → Prop} {a0 : Act}
theorem any_invK (c : Chk l.toArray D) (W : (Nat → Value) → (Nat → Bool) → World → Prop)
    (hstep : ∀ i, i < l.length → ∀ vals L w, L i = false → (∀ j, j < l.length → D i j = true → L j = true) → (∀ k, k < l.length → L k = true → ∀ j, j < l.length → D k j = true → L j = true) → W vals L w → StepK P l a0 W i vals L w)
    (hend : ∀ vals L w, (∀ i, i < l.length → L i = true) → W vals L w → Q .normal (Afr l a0 vals l.length) w) :
    ∀ (fuel : Nat) (listed : Array Bool) (w : World) (vals : Nat → Value), listed.size = l.length → unl listed l.length ≤ fuel →
      (∀ k, k < l.length → listed.getD k false = true → ∀ i, i < l.length → D k i = true → listed.getD i false = true) →
      W vals (fun j => listed.getD j false) w → wpAny P .any l.toArray Q fuel listed (fr l.toArray vals (fun j => listed.getD j false) a0 l.length) w := by
  intro fuel
  have hfin : ∀ (listed : Array Bool) (w : World) (vals : Nat → Value), listed.size = l.length → W vals (fun j => listed.getD j false) w → Region.ready .any l.toArray listed = [] → Q .normal (fr l.toArray vals (fun j => listed.getD j false) a0 l.length) w := by
    intro listed w vals hsz hw hr
    have hall := all_listed c hsz hr
    have e : fr l.toArray vals (fun j => listed.getD j false) a0 l.length = Afr l a0 vals l.length := fr_congr _ (fun k hk => ⟨hall k hk, fun _ => rfl⟩)
    rw [e]
    exact hend vals _ w hall hw
  induction fuel with
  | zero =>
    intro listed w vals hsz hfuel hcl hw
    have hr := ready_nil (l := l) hsz (unl_zero (listed := listed) l.length (by omega))
    exact ⟨hr, hfin listed w vals hsz hw hr⟩
  | succ fuel ih =>
    intro listed w vals hsz hfuel hcl hw
    refine ⟨hfin listed w vals hsz hw, fun i hir => ?_⟩
    obtain ⟨h0, o, ho, hdep⟩ := mem_ready.1 hir
    have hil : i < l.length := by have := (Array.getElem?_eq_some_iff.1 ho).1; simpa using this
    have hlt : i < listed.size := by omega
    obtain rfl : o = opAt l i := by rw [opAt_eq hil] at ho; exact (Option.some.inj ho).symm
    have hiun : listed.getD i false = false := by simp [hlt] at h0 ⊢; exact h0
    have hdeps := deps_listed c hcl hil hdep
    have hno : ∀ k, k < l.length → listed.getD k false = true → D k i = false := fun k hk hlk => by
      cases hd : D k i with
      | false => rfl
      | true => rw [hcl k hk hlk i hil hd] at hiun; cases hiun
    have hfuel' : unl (listed.setIfInBounds i true) l.length ≤ fuel := by have := (unl_set hlt hiun l.length).2 hil; omega
    have hsel : ∀ cs b, (opAt l i).op ≠ .select cs b := fun cs b => c.sel i _ cs b (opAt_eq hil)
    have hag := agree_real (a0 := a0) (v1 := vals) (vals := vals) c hil hiun hdeps hno (fun k hk hlk => rfl)
    obtain ⟨⟨hwant, hwp⟩, htm⟩ := hstep i hil vals _ w hiun hdeps hcl hw
    have := wp_agreeC (Q := Q) hsel hag htm hwp
    unfold wpOp
    simp only [opAt_eq hil]
    rw [← hag.wanted, hwant, if_pos rfl]
    refine .inl (Oper.wp_mono (fun b' w' ⟨v, hb', v2, hv2, hW⟩ => ?_) this)
    rw [hb', put_other hag.1 hv2, fr_step c hil hlt hiun hno]
    refine ih _ w' _ (by simpa using hsz) hfuel' (closed_set hlt hcl hdeps) ?_
    have e : (fun j => (listed.setIfInBounds i true).getD j false) = updN (fun j => listed.getD j false) i true := by
      funext j
      rw [getD_set hlt]
      rfl
    rw [e]
    exact hW
theorem wp_region_invK {id : Nat} {w : World} (W : (Nat → Value) → (Nat → Bool) → World → Prop) (hm : P.follows .mixedOrders = true) (hB : chk l.toArray (masks l) = true) (h0 : W (fun _ => undef) (fun _ => false) w.drew)
    (hstep : ∀ i, i < l.length → ∀ vals L w, L i = false → (∀ j, j < l.length → dm (masks l) i j = true → L j = true) → (∀ k, k < l.length → L k = true → ∀ j, j < l.length → dm (masks l) k j = true → L j = true) → W vals L w → StepK P l a0 W i vals L w)
    (hend : ∀ vals L w, (∀ i, i < l.length → L i = true) → W vals L w → Q .normal (Afr l a0 vals l.length) w) : (Code.region id l.toArray true).wp P Q a0 w := by
  refine wp_region_any hm ?_
  have hun : ∀ k, unl (Array.replicate l.toArray.size false) k ≤ k := fun k => by
    induction k with
    | zero => exact Nat.le_refl _
    | succ k ih => unfold unl; split <;> omega
  have hf : ∀ j, (Array.replicate l.toArray.size false).getD j false = false := fun j => by
    simp only [Array.getD_eq_getD_getElem?, Array.getElem?_replicate]
    split <;> simp
  have hff : (fun j => (Array.replicate l.toArray.size false).getD j false) = fun _ => false := funext hf
  have := any_invK (Q := Q) (a0 := a0) (chk_spec hB) W hstep hend l.toArray.size (Array.replicate l.toArray.size false) { w with drawn := w.drawn + 1 } (fun _ => undef) (by simp) (by simpa using hun l.length)
    (fun k _ h => by rw [hf] at h; cases h) (by rw [hff]; exact h0)
  have e : ∀ k, fr l.toArray (fun _ => undef) (fun j => (Array.replicate l.toArray.size false).getD j false) a0 k = a0 := fun k => by
    induction k with
    | zero => rfl
    | succ k ih => rw [fr, if_neg (by rw [hf]; exact Bool.false_ne_true), ih]
  rw [e] at this
  exact this
end
end Go.Proofs.YtjodocheiejkeaaGreatDoor
