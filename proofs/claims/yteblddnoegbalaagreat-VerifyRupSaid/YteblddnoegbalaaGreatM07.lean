/- My texts SortI, ApS, Units, Vr0, Fn0, Lp1, CpP, merged. -/
import Derived.Test.YteblddnoegbalaaGreatM00
import Derived.Test.YteblddnoegbalaaGreatProg
import Derived.WalkKit
import Derived.Lib.Hide
import Derived.Deep.QuietTactic
import Derived.BigQuiet
import Derived.WalkSpells
import Derived.Lib.SliceRun
import Derived.Test.YteblddnoegbalaaGreatM04
import Derived.Test.YteblddnoegbalaaGreatM03
import Derived.MapKept
import Derived.Maps.OwnSet
import Derived.Maps.OwnOps
import Derived.Test.YteblddnoegbalaaGreatM02
import Derived.Test.YteblddnoegbalaaGreatM01
import Derived.Deep.AppendLies
import Derived.Lib.Bytealg
import Derived.Test.YteblddnoegbalaaGreatM06
import Derived.Test.YteblddnoegbalaaGreatM05
import Derived.Lib.SlicesCompact
import Derived.Shelf.Sort.Plain
import Derived.Shelf.Slices.CompactI
import Derived.Shelf.Slices.In.SortNone
import Derived.Shelf.Strconv.Itoa3
import Derived.Shelf.Strings.BuilderK
import Derived.Shelf.Slices.SearchI
import Derived.Shelf.Slices.Empties
import Derived.Sort.OwnSortedInts
import Derived.Deep.DeepCutAuto
import Derived.RangeFuncNested
import Derived.RangeFuncBound
import Derived.RangeFuncCalls
import Derived.RangeFuncLeaves
import Derived.OwnWalkIn
import Derived.TacticsInMore
import Derived.LoopNIn
import Derived.LoopIn
import Derived.Stop.RegionWithIn
import Derived.Shelf.Abstract
import Derived.RangeFuncBox
import Derived.Maps.OwnIn
import Derived.Lib.RowBridge
import Derived.Sort.QuietThIn

namespace Go.Proofs.YteblddnoegbalaaGreat
open Go.RowKit Go.Sort
theorem ix_map (l : List Int) : (List.range l.length).map (fun i => Value.int .i64 (ix l i)) = l.map (Value.int .i64) := by
  apply List.ext_getElem (by simp)
  intro i h1 h2
  simp only [List.length_map, List.length_range] at h1
  simp [ix, List.getD_eq_getElem?_getD, List.getElem?_eq_getElem h1]
theorem fits_mem {l s : List Int} (h : Fits l) (hm : ∀ x ∈ s, x ∈ l) : Fits s := fitI fun x hx => by
  obtain ⟨j, hj, e⟩ := List.mem_iff_getElem.1 (hm x hx)
  have := h j
  rw [ix_get hj, e] at this
  exact this
abbrev srt (l : List Int) : List Int := l.mergeSort fun x y => decide (x ≤ y)
theorem sortI_own {base : Nat} {w : World} {v : Value} {l : List Int} (h : OwnI base w v l) :
    Calls Tryz.prog 81 #[v] w fun e w' => e = .returned (.tuple #[]) ∧ OwnI base w' v (srt l) ∧ w.grownBy w' v.ownBlock := by
  have hfit : Fits (srt l) := fits_mem h.2 fun x hx => (sortI_mem l x).1 hx
  have hlen := sortI_len l
  have hb8 := h.1.2
  rcases h.1.1.2 with ⟨rfl, e⟩ | ⟨g, cap, cur, rfl, hb, hg, hn, hm, hs, hx⟩
  · have e0 : l = [] := List.eq_nil_of_length_eq_zero e
    subst e0
    refine (Tryz.slices_Sort_int_none none 0 w).mono ?_
    rintro e w' ⟨rfl, rfl⟩
    refine ⟨rfl, ?_, ⟨rfl, rfl, rfl, Nat.le_refl _, fun _ _ _ => rfl⟩⟩
    have e2 : srt [] = [] := by simp [srt]
    rw [e2]; exact h
  · rw [ix_map] at hx
    have hH := holds_of_blockI (ss := l) hg (by simpa using hx)
    have hc := Tryz.slices_Sort_int g 0 cap l w hH (Array.getElem?_eq_some_iff.1 hg).1 (by omega)
    refine hc.mono ?_
    rintro e w' ⟨rfl, n, os, rfl⟩
    refine ⟨rfl, ⟨⟨?_, by rw [hlen]; exact hb8⟩, hfit⟩, grownBy_sortedI _⟩
    have h2 := ownsRow_sortedI (n := n) (os := os) (base := base) (ts := srt l) hlen hb hg hn hm hs
    rw [ix_map, hlen]
    exact h2
end Go.Proofs.YteblddnoegbalaaGreat
namespace Go.Proofs.YteblddnoegbalaaGreat
open Go.RowKit Go.Shelf Go.Sort
attribute [local go_sem] Oper.semAt_some
theorem own_of_row {base : Nat} {w : World} {v : Value} {l : List Int} (h : w.ownsRow base 3 1 v l.length (l.map (Value.int .i64))) (h8 : l.length * 8 ≤ 140737488351232) (hf : Fits l) : OwnI base w v l := by
  refine ⟨⟨?_, h8⟩, hf⟩
  rw [ix_map]
  exact h
set_option maxHeartbeats 4000000 in
set_option maxRecDepth 100000 in
theorem appSeq_any (l : List Int) (wi w : World) (v : Value) (cb : Nat) (hI : Ints wi v l) (hb : Below wi.heap.size wi w) (hcb : Blk w cb [v] 23) :
    Calls Tryz.prog 167 #[.slice none 0 0, .func (.func 119) #[] #[.pointer (some ⟨cb, 0, none⟩)]] w fun e w' => ∃ vo, e = .returned vo ∧ OwnI w.heap.size w' vo l ∧ Below w.heap.size w w' := by
  obtain ⟨i0, hi, hz0, hz1, hz2⟩ := info_parts infoI
  have h8 : l.length * 8 ≤ 140737488351232 := by obtain ⟨⟨_, _, _, _, _, h, _⟩, _⟩ := hI; exact h
  have hfit := hI.2
  have HFIT := Lib.hid hfit
  have hcl := hcb.lt
  have bO := Boxed.new w 23 (.slice none 0 0)
  have hB0 : Below w.heap.size w (w.alloc (.cells #[.slice none 0 0] 23)) := bal (Below.refl _ _) _
  have hzb := hb.size
  refine (callsIn_wide (n := 6)).1 ?_
  refine callsIn_of_wp_marks Tryz.func167 rfl trivial ?_ rfl
  simp only [Tryz.ntmps167, List.size_toArray, List.length_cons, List.length_nil, Nat.reduceAdd, Nat.reduceSub, Array.replicate_succ, Array.replicate_zero, List.push_toArray, List.append_toArray, List.nil_append, List.cons_append]
  gi_wp2
  refine wpIn_rangeFunc_ownG rfl (by omega) (gf := 119) (lb := #[.pointer (some ⟨cb, 0, none⟩)]) rfl trivial (enters_of Tryz.func119 (by kernel_rfl) rfl)
    (vals_stops l wi _ v w.heap.size cb hI (bon hb hB0) (hcb.below hB0) hcl hzb (by simp) 5 (by omega)) belowK_t (belowK_b (by simp)) (Below.refl _ _) (fun _ => rfl)
    (fun pre W => (∃ v, Boxed W w.heap.size 23 v ∧ W.ownsRow w.heap.size 3 1 v pre.length ((evs pre).map (Value.int .i64)) ∧ True) ∧ Below w.heap.size w W)
    (fun _ _ _ => False)
    (OwnFrom.and (Own.from (holdsRow_own w.heap.size w.heap.size 23 3 1 (fun pre : List (EV l) => pre.length) (fun pre => (evs pre).map (Value.int .i64)) (fun _ _ => True)) _) (ownFrom_below (Nat.le_refl _) (by simp)))
    (fun _ _ _ _ _ hs _ _ => hs)
    ⟨⟨_, bO, World.ownsRow_nil _ _ _ _, trivial⟩, hB0⟩
    (fun x => { tmps := #[.slice none 0 0, .func (.func 119) #[] #[.pointer (some ⟨cb, 0, none⟩)], .pointer (some ⟨w.heap.size, 0, none⟩), undef, .slice none 0 0, .int .i64 x.1, .func (.func 119) #[] #[.pointer (some ⟨cb, 0, none⟩)], .int .i64 x.1, undef, undef, undef, undef, undef], defers := [] }) ?assign ?body ?done ?stop
  case assign =>
    intro lp x W K hK
    gi_wp2
    exact hK
  case body =>
    rintro lp pre x W ⟨⟨v1, hv, hrow, -⟩, hB⟩ hlt
    have hc := hv.cell
    gi_wp2_with (gi_at_builtin; refine wpListIn_append_own _ rfl _ _ 23 rfl w.heap.size 3 i0 (.int .i64 0) 1 8 Tryz.underlying23 hi hz0 hz1 hz2 rfl (by decide) _ _ _ rfl (hrow.alloc _) ⟨W.heap.size, 0, none⟩ 1 1 [.int .i64 x.1] rfl rfl (cell_one_new _ _ _) (by simp [Value.oneCell']) (by unfold maxLen; omega) (by omega) (by have := hB.size; simp; omega) ?_; intro v' w1 hown' hgrow _; obtain ⟨g', cap', rfl⟩ := ownsRow_succ hown'; obtain ⟨hv1, hv2, hr2, hk2, hb2⟩ := hv.appended (by decide) hrow hB.size (Nat.le_refl _) hown' hgrow; have hc1 := hv1.cell; have hf1 := hv1.frozen)
    exact ⟨hk2.from _, hb2, ⟨_, hv2, by rw [evs_snoc]; simpa using hr2, trivial⟩, hB.trans hb2⟩
  case done =>
    rintro D ys W hD hys ⟨⟨v1, hv, hrow, -⟩, hB⟩ hK
    have hc := hv.cell
    gi_wp2
    refine ⟨by simp, .inl ⟨_, _, rfl, run_takeDeferred hK, ?_⟩⟩
    refine ⟨_, results_tmp rfl _ _ _, v1, rfl, own_of_row ?_ h8 HFIT.out, hB.trans (belowK_b (w := w) (Nat.le_refl _) W D _ _ (by simp at hD; omega) hK rfl rfl)⟩
    have h1 := ownsRow_putObj hrow (.deferred none) hK rfl
    rw [show ys.length = l.length by rw [← evs_len, hys], hys] at h1
    exact h1
  case stop =>
    rintro D c pre W _ _ h _
    exact h.elim
theorem collect_any (l : List Int) (wi w : World) (v : Value) (cb : Nat) (hI : Ints wi v l) (hb : Below wi.heap.size wi w) (hcb : Blk w cb [v] 23) :
    Calls Tryz.prog 118 #[.func (.func 119) #[] #[.pointer (some ⟨cb, 0, none⟩)]] w fun e w' => ∃ vo, e = .returned vo ∧ OwnI w.heap.size w' vo l ∧ Below w.heap.size w w' := by
  have HA := Lib.hid (appSeq_any l wi w v cb hI hb hcb)
  clear hI hb hcb
  go_enter Tryz.func118, Tryz.ntmps118
  go_wp2_with (go_at_call 167; (with_reducible refine (HA.out).mono ?_); rintro e w1 ⟨vo, rfl, ho, hb1⟩)
  go_ret
  exact ⟨vo, rfl, ho, hb1⟩
theorem sorted_any (l : List Int) (wi w : World) (v : Value) (cb : Nat) (hI : Ints wi v l) (hb : Below wi.heap.size wi w) (hcb : Blk w cb [v] 23) :
    Calls Tryz.prog 79 #[.func (.func 119) #[] #[.pointer (some ⟨cb, 0, none⟩)]] w fun e w' => ∃ vo, e = .returned vo ∧ OwnI w.heap.size w' vo (srt l) ∧ Below w.heap.size w w' := by
  have HA := Lib.hid (collect_any l wi w v cb hI hb hcb)
  clear hI hb hcb
  go_enter Tryz.func79, Tryz.ntmps79
  go_wp2_with (first
    | (go_at_call 81; (with_reducible refine (sortI_own HO.out).mono ?_); rintro e w2 ⟨rfl, ho2, hg2⟩)
    | (go_at_call 118; (with_reducible refine (HA.out).mono ?_); rintro e w1 ⟨vo, rfl, ho, hb1⟩; have HO := Lib.hid ho; obtain ⟨av, nv, rfl⟩ := ho.1.form; have HB1 := Lib.hid hb1; clear ho hb1))
  go_ret
  refine ⟨_, rfl, ho2, HB1.out.grown hg2 HB1.out.size (fun k ek => ?_)⟩
  rcases HO.out.1.1.2 with ⟨e, _⟩ | ⟨g, cap, cur, e, hbase, _⟩
  · rw [e] at ek; cases ek
  · rw [e] at ek
    simp only [Value.ownBlock, Option.some.injEq] at ek
    omega
theorem compact_mem {l : List Int} {x : Int} (h : x ∈ Lib.compact l) : x ∈ l := by
  unfold Lib.compact Lib.compactUpTo at h
  obtain ⟨j, hj, rfl⟩ := List.mem_map.1 h
  have h1 := List.mem_range.1 (List.mem_filter.1 hj).1
  show l.toArray[j]! ∈ l
  rw [geti l h1]
  exact List.getElem_mem h1
theorem grow_nil (w : World) : grow w #[] = w := by cases w; simp [grow]
theorem compactI_own {base : Nat} {w : World} {v : Value} {l : List Int} (h : OwnI base w v l) :
    Calls Tryz.prog 78 #[v] w fun e w' => ∃ a c, e = .returned (.slice a (Lib.compact l).length c) ∧ Ints w' (.slice a (Lib.compact l).length c) (Lib.compact l) ∧ w.grownBy w' v.ownBlock := by
  have hb8 := h.1.2
  have hfit : Fits (Lib.compact l) := fits_mem h.2 fun x hx => compact_mem hx
  rcases h.1.1.2 with ⟨rfl, e⟩ | ⟨g, cap, cur, rfl, hb, hg, hn, hm, hs, hx⟩
  · have e0 : l = [] := List.eq_nil_of_length_eq_zero e
    subst e0
    refine (Tryz.slices_Compact_int_empty none 0 w).mono ?_
    rintro e w' ⟨rfl, rfl⟩
    exact ⟨none, 0, rfl, nil_ints _, ⟨rfl, rfl, rfl, Nat.le_refl _, fun _ _ _ => rfl⟩⟩
  · rw [ix_map] at hx
    have hH := holds_of_blockI (ss := l) hg (by simpa using hx)
    have hc := Tryz.slices_Compact_int g 0 cap l w hH (by omega) hn
    refine hc.mono ?_
    rintro e w' ⟨rfl, q, rfl⟩
    have hle := Lib.compact_length_le l
    obtain ⟨ts, hts⟩ : ∃ ts, ts = Lib.compact l ++ List.replicate (l.length - (Lib.compact l).length) 0 := ⟨_, rfl⟩
    rw [← hts]
    have hl : ts.length = l.length := by rw [hts]; simp; omega
    have ew : putRow (Value.int .i64) (Sort.ahead w q) g 0 ts.toArray = grow (putRow (Value.int .i64) (Sort.ahead w q) g 0 ts.toArray) #[] := (grow_nil _).symm
    have h2 := ownsRow_sortedI (n := q) (os := #[]) (base := base) (ts := ts) hl hb hg hn hm hs
    have h3 := grownBy_sortedI (w := w) (g := g) (n := q) (os := #[]) ts.toArray
    rw [← ew] at h2 h3
    have hgl := (Array.getElem?_eq_some_iff.1 hg).1
    have hcap : (Lib.compact l).length ≤ cap := by omega
    refine ⟨_, _, rfl, ⟨⟨_, cap, rfl, hcap, hm, by omega, fun _ => ⟨g, 0, rfl, ?_, fun i hi => ?_⟩⟩, hfit⟩, h3⟩
    · have := h3.size
      omega
    · have h4 := h2.cellAt i (by omega)
      rw [Nat.zero_add, h4]
      simp only [List.getElem?_map]
      rw [hts, List.getElem?_append_left hi, List.getElem?_eq_getElem hi]
      simp [ix, List.getD_eq_getElem?_getD, List.getElem?_eq_getElem hi]
end Go.Proofs.YteblddnoegbalaaGreat
namespace Go.Proofs.YteblddnoegbalaaGreat
open Go.RowKit
attribute [local go_sem] Oper.semAt_some
def uniL (a : List Int) (s : Int) (l : List (Int × Int)) : List Int := (l.filter fun x => decide (valI a x.1 = 0) && decide (s < x.2)).map (·.1)
def unitsC (c : PBC) (a : List Int) : List Int := if pbV c = true ∧ 0 ≤ slackC c a then uniL a (slackC c a) (c.lits.zip c.coefs) else []
theorem uniL_snoc (a : List Int) (s : Int) (l : List (Int × Int)) (x : Int × Int) : uniL a s (l ++ [x]) = if valI a x.1 = 0 ∧ s < x.2 then uniL a s l ++ [x.1] else uniL a s l := by
  unfold uniL
  rw [List.filter_append]
  by_cases h1 : valI a x.1 = 0 <;> by_cases h2 : s < x.2 <;> simp [h1, h2]
theorem uniL_len (a : List Int) (s : Int) (l : List (Int × Int)) : (uniL a s l).length ≤ l.length := by
  unfold uniL
  rw [List.length_map]
  exact List.length_filter_le _ _
theorem uniL_sub {a : List Int} {s : Int} {l : List (Int × Int)} {x : Int} (h : x ∈ uniL a s l) : ∃ y ∈ l, y.1 = x := by
  unfold uniL at h
  obtain ⟨y, hy, rfl⟩ := List.mem_map.1 h
  exact ⟨y, (List.mem_filter.1 hy).1, rfl⟩
theorem ownsRow_mono {base base' : Nat} {e : TypeId} {size n : Nat} {W : World} {v : Value} {xs : List Value} (h : W.ownsRow base e size v n xs) (hb : base' ≤ base) : W.ownsRow base' e size v n xs := by
  obtain ⟨h1, h2⟩ := h
  refine ⟨h1, ?_⟩
  rcases h2 with h2 | ⟨g, cap, cur, e, hg, r⟩
  · exact .inl h2
  · exact .inr ⟨g, cap, cur, e, Nat.le_trans hb hg, r⟩
theorem appended_lim {W w1 : World} {n1 B : Nat} {t e : TypeId} {size : Nat} {v v' : Value} {k m : Nat} {xs ys : List Value} {tmp : Obj}
    (hv : Boxed W B t v) (hte : t ≠ e) (hrow : W.ownsRow n1 e size v k xs) (hn1 : n1 ≤ W.heap.size) (hB : B < n1)
    (hown' : w1.ownsRow n1 e size v' m ys) (hgrow : (W.alloc tmp).grownBy w1 v.ownBlock) :
    Boxed w1 B t v ∧ Boxed (w1.setCell ⟨B, 0, none⟩ v') B t v' ∧ (w1.setCell ⟨B, 0, none⟩ v').ownsRow n1 e size v' m ys ∧ KeepsOthers W (w1.setCell ⟨B, 0, none⟩ v') ∧ Lim n1 [B] W (w1.setCell ⟨B, 0, none⟩ v') := by
  have hB' : B ≤ n1 := Nat.le_of_lt hB
  obtain ⟨h1, h2, h3, h4, h5⟩ := hv.appended hte (ownsRow_mono hrow hB') (by omega) (Nat.le_refl B) (ownsRow_mono hown' hB') hgrow
  have hbase : ∀ g, v.ownBlock = some g → n1 ≤ g := fun g ej => by
    rcases hrow.2 with ⟨rfl, _⟩ | ⟨g', cap, cur, rfl, hb, _, _⟩
    · simp [Value.ownBlock] at ej
    · obtain rfl : g' = g := by simpa [Value.ownBlock] using ej
      exact hb
  refine ⟨h1, h2, hown'.kept (grownBy_setCell' w1 B v') (.inr (h1.not_row hte hown').symm), h4, ⟨h5.os, h5.tape, h5.output, h5.size, fun i hi hs => ?_⟩⟩
  have hne : i ≠ B := fun e => hs (by simp [e])
  rw [Below.heap_setCell _ _ _ _ hne]
  have hlt : i < W.heap.size := by omega
  refine (hgrow.block i (by simp; omega) (fun e => ?_)).trans (Below.heap_alloc _ _ _ hlt)
  have := hbase i e.symm
  omega
structure UnSt (c : PBC) (a : List Int) (H sb ob n1 : Nat) (vl vk va : Value) (s : Int) (pre : List (PV c)) (W : World) : Prop where
  box : Blk W H [vl, vk, .int .i64 c.bound] 25
  abox : Blk W (H + 1) [va] 51
  sum : Blk W sb [.int .i64 s] 3
  out : ∃ v, Boxed W ob 23 v ∧ W.ownsRow n1 3 1 v (uniL a s (pvs pre)).length ((uniL a s (pvs pre)).map (Value.int .i64)) ∧ True
theorem UnSt.own {c : PBC} {a : List Int} {H sb ob n1 B : Nat} {vl vk va : Value} {s : Int} : OwnFrom B (fun pre W => UnSt c a H sb ob n1 vl vk va s pre W) := fun pre X Y row hs hg hrow => by
  have hr : ∀ r, row = some r → ∃ o : Obj, X.heap[r]? = some o ∧ o.isCells = false := fun r e => (hrow r e).2
  exact ⟨blk_ownP _ _ _ () X Y row hs.box hg hr, blk_ownP _ _ _ () X Y row hs.abox hg hr, blk_ownP _ _ _ () X Y row hs.sum hg hr,
    holdsRow_own n1 ob 23 3 1 (fun pre : List (PV c) => (uniL a s (pvs pre)).length) (fun pre => (uniL a s (pvs pre)).map (Value.int .i64)) (fun _ _ => True) pre X Y row hs.out hg hr⟩
theorem slack_small {c : PBC} {a : List Int} (h : pbV c = true) : -1099511627776 ≤ slackC c a ∧ slackC c a ≤ 1099511627776 := by
  obtain ⟨h1, h2, h3, h4, h5⟩ := pbV_parts h
  have h6 := sumW_bound (t := liB a) (m := c.bound) h2 (l := c.lits.zip c.coefs) fun x hx => (okF_mem h4 _ hx).2
  rw [List.length_zip, ← h1, Nat.min_self] at h6
  have h7 : c.bound * (c.lits.length : Int) ≤ 16777216 * 65536 := Int.le_trans (Int.mul_le_mul_of_nonneg_right h3 (by omega)) (Int.mul_le_mul_of_nonneg_left (by omega) (by omega))
  unfold slackC
  rw [h]
  simp only [if_true]
  omega
set_option maxHeartbeats 4000000 in
set_option maxRecDepth 100000 in
theorem units_any (v va : Value) (c : PBC) (a : List Int) (w : World) (h : PBIs w v c) (ha : Bytes8 w va a) :
    Calls Tryz.prog 63 #[v, va] w fun e w' => ∃ vo, e = .returned vo ∧ Ints w' vo (unitsC c a) ∧ Below w.heap.size w w' := by
  obtain ⟨i0, hi, hz0, hz1, hz2⟩ := info_parts infoI
  obtain ⟨vl, vk, rfl, hL, hK, hbd⟩ := h
  obtain ⟨a1, c1, rfl, -, hl1, -, -⟩ := hL.form
  obtain ⟨a2, c2, rfl, -, hl2, -, -⟩ := hK.form
  have ha0 := ha
  obtain ⟨⟨ad, ca, rfl, -⟩, -⟩ := ha0
  have hal : Below w.heap.size w ((w.alloc (.cells #[.slice a1 c.lits.length c1, .slice a2 c.coefs.length c2, .int .i64 c.bound] 25)).alloc (.cells #[.slice ad a.length ca] 51)) := bal (bal (Below.refl _ _) _) _
  have HAL := Lib.hid hal
  have HC : Hid (PBIs ((w.alloc (.cells #[.slice a1 c.lits.length c1, .slice a2 c.coefs.length c2, .int .i64 c.bound] 25)).alloc (.cells #[.slice ad a.length ca] 51)) (.agg #[.slice a1 c.lits.length c1, .slice a2 c.coefs.length c2, .int .i64 c.bound]) c) := Lib.hid ⟨_, _, rfl, hL.below hal, hK.below hal, hbd⟩
  have HAW := Lib.hid (ha.below hal)
  have BB : Hid (Blk ((w.alloc (.cells #[.slice a1 c.lits.length c1, .slice a2 c.coefs.length c2, .int .i64 c.bound] 25)).alloc (.cells #[.slice ad a.length ca] 51)) w.heap.size [.slice a1 c.lits.length c1, .slice a2 c.coefs.length c2, .int .i64 c.bound] 25) := Lib.hid (by repeat first | (refine Blk.newAt _ _ _ ?_; first | rfl | (simp only [World.size_alloc]; done) | (simp only [World.size_alloc]; omega)) | refine Blk.alloc ?_ _)
  have BA : Hid (Blk ((w.alloc (.cells #[.slice a1 c.lits.length c1, .slice a2 c.coefs.length c2, .int .i64 c.bound] 25)).alloc (.cells #[.slice ad a.length ca] 51)) (w.heap.size + 1) [.slice ad a.length ca] 51) := Lib.hid (by repeat first | (refine Blk.newAt _ _ _ ?_; first | rfl | (simp only [World.size_alloc]; done) | (simp only [World.size_alloc]; omega)) | refine Blk.alloc ?_ _)
  have HL := Lib.hid hL
  have HK := Lib.hid hK
  have HA := Lib.hid ha
  unfold InI at hbd
  clear hL hK ha hal
  refine (callsIn_wide (n := 6)).1 ?_
  refine callsIn_of_wp_marks Tryz.func63 rfl trivial ?_ rfl
  simp only [Tryz.ntmps63, List.size_toArray, List.length_cons, List.length_nil, Nat.reduceAdd, Nat.reduceSub, Array.replicate_succ, Array.replicate_zero, List.push_toArray, List.append_toArray, List.nil_append, List.cons_append]
  cases hv : pbV c with
  | false =>
    have HF : Hid (unitsC c a = []) := Lib.hid (by unfold unitsC; rw [hv]; simp)
    have HV := Lib.hid hv
    clear hv
    gi_wp2_with (first | (refine ⟨trivial, ?_⟩; gi_at_call 30; refine (callsIn_wide.2 (pbValid_any _ c _ HC0.out)).mono ?_; rintro e w5 ⟨ev, hb5⟩; rw [HV.out] at ev; subst ev; have kv0 := ((B0.out.alloc _).below hb5).cell; have kv1 := ((B1.out.alloc _).below hb5).cell; have kv2 := ((Blk.new w0 [.int .i64 (slackC c a)] 3).below hb5).cell; have HB5 := Lib.hid (bon (bal HB0.out (.cells #[.int .i64 (slackC c a)] 3)) hb5); have C0 := Lib.hid ((B0.out.alloc (.cells #[.int .i64 (slackC c a)] 3)).below hb5); have C1 := Lib.hid ((B1.out.alloc (.cells #[.int .i64 (slackC c a)] 3)).below hb5); have C2 := Lib.hid ((Blk.new w0 [.int .i64 (slackC c a)] 3).below hb5); have hz5 := C2.out.lt; have hz6 : w.heap.size < w5.heap.size := C0.out.lt; have hz7 : w.heap.size + 1 < w5.heap.size := C1.out.lt; clear hb5) | (refine ⟨trivial, ?_⟩; gi_at_call 62; refine (callsIn_wide.2 (slack_any _ _ c a _ HC.out HAW.out)).mono ?_; rintro e w0 ⟨rfl, hb0⟩; have kk0 := (BB.out.below hb0).cell; have kk1 := (BA.out.below hb0).cell; have HB0 := Lib.hid (bon HAL.out hb0); have B0 := Lib.hid (BB.out.below hb0); have B1 := Lib.hid (BA.out.below hb0); have HC0 := Lib.hid ((HC.out.below hb0).below (bal (Below.refl w0.heap.size w0) (.cells #[.int .i64 (slackC c a)] 3))); have hzz := B1.out.lt; have hzy : w.heap.size < w0.heap.size := (by omega); clear hb0))
    exact ⟨.slice none 0 0, by simp [results, Tryz.f63, go_sem], _, rfl, by rw [HF.out]; exact nil_ints _, HB5.out⟩
  | true =>
    have HV := Lib.hid hv
    by_cases hs0 : 0 ≤ slackC c a
    · have HF : Hid (unitsC c a = uniL a (slackC c a) (c.lits.zip c.coefs)) := Lib.hid (if_pos ⟨hv, hs0⟩)
      have HLN := Lib.hid (pbV_parts hv).1
      have hbb := (pbV_parts hv).2
      obtain ⟨hb0, hb1', -, hlen⟩ := hbb
      have hsm := slack_small (a := a) hv
      clear hv
      gi_wp2_with (first | (refine ⟨trivial, ?_⟩; gi_at_call 45; refine (callsIn_wide.2 (parts_any _ _ _ _ ⟨_, _, _, rfl⟩ ⟨_, _, _, rfl⟩)).mono ?_; rintro e w1 ⟨rfl, hb1, hp1⟩) | (refine ⟨trivial, ?_⟩; gi_at_call 30; refine (callsIn_wide.2 (pbValid_any _ c _ HC0.out)).mono ?_; rintro e w5 ⟨ev, hb5⟩; rw [HV.out] at ev; subst ev; have kv0 := ((B0.out.alloc _).below hb5).cell; have kv1 := ((B1.out.alloc _).below hb5).cell; have kv2 := ((Blk.new w0 [.int .i64 (slackC c a)] 3).below hb5).cell; have HB5 := Lib.hid (bon (bal HB0.out (.cells #[.int .i64 (slackC c a)] 3)) hb5); have C0 := Lib.hid ((B0.out.alloc (.cells #[.int .i64 (slackC c a)] 3)).below hb5); have C1 := Lib.hid ((B1.out.alloc (.cells #[.int .i64 (slackC c a)] 3)).below hb5); have C2 := Lib.hid ((Blk.new w0 [.int .i64 (slackC c a)] 3).below hb5); have hz5 := C2.out.lt; have hz6 : w.heap.size < w5.heap.size := C0.out.lt; have hz7 : w.heap.size + 1 < w5.heap.size := C1.out.lt; clear hb5) | (refine ⟨trivial, ?_⟩; gi_at_call 62; refine (callsIn_wide.2 (slack_any _ _ c a _ HC.out HAW.out)).mono ?_; rintro e w0 ⟨rfl, hb0⟩; have kk0 := (BB.out.below hb0).cell; have kk1 := (BA.out.below hb0).cell; have HB0 := Lib.hid (bon HAL.out hb0); have B0 := Lib.hid (BB.out.below hb0); have B1 := Lib.hid (BA.out.below hb0); have HC0 := Lib.hid ((HC.out.below hb0).below (bal (Below.refl w0.heap.size w0) (.cells #[.int .i64 (slackC c a)] 3))); have hzz := B1.out.lt; have hzy : w.heap.size < w0.heap.size := (by omega); clear hb0))
      have b0 := (C0.out.alloc (.cells #[.slice none 0 0] 23)).below hb1
      have b1 := (C1.out.alloc (.cells #[.slice none 0 0] 23)).below hb1
      have b2 := (C2.out.alloc (.cells #[.slice none 0 0] 23)).below hb1
      have hbw := bon (bal HB5.out (.cells #[.slice none 0 0] 23)) hb1
      have hz := hp1.lt
      have bo : Boxed w1 w5.heap.size 23 (.slice none 0 0) := (Blk.new w5 [.slice none 0 0] 23).below hb1
      have hzs : w0.heap.size < w5.heap.size := C2.out.lt
      have hzr : w.heap.size + 1 < w0.heap.size := B1.out.lt
      simp only [World.size_alloc] at hz hp1 hb1
      have hst : PartSt w w1 [w5.heap.size] (w5.heap.size + 1) (.slice a1 c.lits.length c1) (.slice a2 c.coefs.length c2) c.bound := ⟨fun i hi => hbw.block i hi, hbw.size, hp1⟩
      clear hb1 hp1
      refine parts_loop HL.out HK.out HLN.out hst (fun s hs => by simp only [List.mem_cons, List.not_mem_nil, or_false] at hs; omega) (by simp <;> omega) (by omega) rfl rfl
        (fun pre W => UnSt c a w.heap.size w0.heap.size w5.heap.size w1.heap.size (.slice a1 c.lits.length c1) (.slice a2 c.coefs.length c2) (.slice ad a.length ca) (slackC c a) pre W ∧ Up w w1 W)
        (fun _ _ _ => False)
        (OwnFrom.and UnSt.own (Up.own hbw.size)) (fun _ _ _ _ _ h _ _ => h)
        ⟨⟨b0, b1, b2, _, bo, World.ownsRow_nil _ _ _ _, trivial⟩, hbw, Nat.le_refl _⟩ ?a1 ?assign ?body ?done ?stop
      case assign =>
        intro l x W K hK
        gi_wp2
        exact hK
      case body =>
        rintro l pre x W ⟨⟨k0, k1, k2, v1, kv, krow, -⟩, hU⟩ hlt
        have he := pv_elem HV.out x
        obtain ⟨⟨x1, x2⟩, hx⟩ := x
        dsimp only at he ⊢
        have HX0 : Hid (x1 ≠ 0) := Lib.hid he.1
        have HX1 : Hid (-4611686018427387904 ≤ x1 ∧ x1 ≤ 4611686018427387904) := Lib.hid (by omega)
        have hx2 : 1 ≤ x2 ∧ x2 ≤ 16777216 := he.2.2.2
        have HU := Lib.hid hU
        have HVA := Lib.hid (HA.out.below hU.below)
        have HK0 := Lib.hid k0
        have HK1 := Lib.hid k1
        have HK2 := Lib.hid k2
        have HKV := Lib.hid kv
        have HROW := Lib.hid krow
        have q1 := k1.cell 0
        have q2 := k2.cell 0
        have q3 := kv.cell
        have hU2 := hU.size
        have hU3 : w1.heap.size ≤ W.heap.size := hU.size
        have hun := uniL_len a (slackC c a) (pvs pre)
        rw [pvs_len] at hun
        have HSN : Hid (uniL a (slackC c a) (pvs (pre ++ [⟨(x1, x2), hx⟩])) = if valI a x1 = 0 ∧ slackC c a < x2 then uniL a (slackC c a) (pvs pre) ++ [x1] else uniL a (slackC c a) (pvs pre)) := Lib.hid (by rw [pvs_snoc]; exact uniL_snoc _ _ _ _)
        clear k0 k1 k2 kv krow hU he hst b0 b1 b2 bo
        by_cases hp : valI a x1 = 0
        · have hpe : (valI a x1 == 0) = true := by simp [hp]
          by_cases hq : slackC c a < x2
          · have HN : Hid (uniL a (slackC c a) (pvs (pre ++ [⟨(x1, x2), hx⟩])) = uniL a (slackC c a) (pvs pre) ++ [x1]) := Lib.hid (by rw [HSN.out, if_pos ⟨hp, hq⟩])
            clear hp
            gi_wp2_with (first
              | (gi_at_builtin; refine wpListIn_append_own _ rfl _ _ 23 rfl w1.heap.size 3 i0 (.int .i64 0) 1 8 Tryz.underlying23 hi hz0 hz1 hz2 rfl (by decide) _ _ _ rfl (HROW.out.alloc _) ⟨W.heap.size, 0, none⟩ 1 1 [.int .i64 x1] rfl rfl (cell_one_new _ _ _) (by simp [Value.oneCell']) (by unfold maxLen; omega) (by omega) (by simp; omega) ?_; intro v' w7 hown' hgrow _; obtain ⟨g', cap', rfl⟩ := ownsRow_succ hown'; obtain ⟨hv1, hv2, hr2, hk2, hl2⟩ := appended_lim HKV.out (by decide) HROW.out hU3 (by omega) hown' hgrow; have hc1 := hv1.cell; have hf1 := hv1.frozen)
              | (refine ⟨trivial, ?_⟩; gi_at_call 46; refine (CallsIn.inRound l (callsIn_wide.2 (pvalue_any _ a _ HVA.out _ HX0.out HX1.out))).mono ?_; rintro e w2 ⟨rfl, rfl⟩))
            have hb7 : Below w.heap.size W _ := (hl2.mono (m := w.heap.size) (S' := [w5.heap.size]) (by omega) (fun i hi _ => hi)).below (fun i hi => by simp only [List.mem_singleton] at hi; omega)
            refine ⟨hk2, hl2, ⟨HK0.out.same (hl2.block _ (by omega) (by simp; omega)), HK1.out.same (hl2.block _ (by omega) (by simp; omega)), HK2.out.same (hl2.block _ (by omega) (by simp; omega)), _, hv2, ?_, trivial⟩, HU.out.below.trans hb7, Nat.le_trans HU.out.size hl2.size⟩
            rw [HN.out]
            simpa using hr2
          · have HN : Hid (uniL a (slackC c a) (pvs (pre ++ [⟨(x1, x2), hx⟩])) = uniL a (slackC c a) (pvs pre)) := Lib.hid (by rw [HSN.out, if_neg (fun h => hq h.2)])
            clear hp
            gi_wp2_with (refine ⟨trivial, ?_⟩; gi_at_call 46; refine (CallsIn.inRound l (callsIn_wide.2 (pvalue_any _ a _ HVA.out _ HX0.out HX1.out))).mono ?_; rintro e w2 ⟨rfl, rfl⟩)
            refine ⟨KeepsOthers.refl _, Lim.refl _ _ _, ⟨HK0.out, HK1.out, HK2.out, v1, HKV.out, ?_, trivial⟩, HU.out⟩
            rw [HN.out]
            exact HROW.out
        · have hpe : (valI a x1 == 0) = false := by simp [hp]
          have HN : Hid (uniL a (slackC c a) (pvs (pre ++ [⟨(x1, x2), hx⟩])) = uniL a (slackC c a) (pvs pre)) := Lib.hid (by rw [HSN.out, if_neg (fun h => hp h.1)])
          clear hp
          gi_wp2_with (refine ⟨trivial, ?_⟩; gi_at_call 46; refine (CallsIn.inRound l (callsIn_wide.2 (pvalue_any _ a _ HVA.out _ HX0.out HX1.out))).mono ?_; rintro e w2 ⟨rfl, rfl⟩)
          refine ⟨KeepsOthers.refl _, Lim.refl _ _ _, ⟨HK0.out, HK1.out, HK2.out, v1, HKV.out, ?_, trivial⟩, HU.out⟩
          rw [HN.out]
          exact HROW.out
      case done =>
        rintro D xs W hD hS ⟨⟨k0, k1, k2, v1, kv, krow, -⟩, hU⟩ hK
        have q0 := kv.cell
        have hun := uniL_len a (slackC c a) (pvs xs)
        rw [hS, List.length_zip] at hun
        have HR := Lib.hid (ownsRow_putObj krow (.deferred none) hK rfl)
        have HE : Hid (pvs xs = c.lits.zip c.coefs) := Lib.hid hS
        have HU := Lib.hid hU
        have HD := Lib.hid hK
        clear k0 k1 k2 kv krow hS hU hK hst b0 b1 b2 bo
        gi_wp2
        refine ⟨by simp, .inl ⟨_, _, rfl, run_takeDeferred HD.out, ?_⟩⟩
        refine ⟨v1, by simp [results, Tryz.f63, go_sem], v1, rfl, ?_, HU.out.below.trans (belowK_b (w := w) (Nat.le_refl _) _ D _ _ (by omega) HD.out rfl rfl)⟩
        rw [HF.out]
        have h1 := HR.out
        rw [HE.out] at h1
        exact (own_of_row h1 (by omega) (fun i => by
          by_cases hi : i < (uniL a (slackC c a) (c.lits.zip c.coefs)).length
          · obtain ⟨y, hy, e⟩ := uniL_sub (ix_mem hi)
            have := pv_elem HV.out ⟨y, hy⟩
            dsimp only at this
            omega
          · unfold ix
            rw [List.getD_eq_getElem?_getD, List.getElem?_eq_none (by omega)]
            simp)).ints
      case stop => rintro D e pre W hD hS ⟨⟩
    · have HF : Hid (unitsC c a = []) := Lib.hid (if_neg (fun h => hs0 h.2))
      clear hv
      gi_wp2_with (first | (refine ⟨trivial, ?_⟩; gi_at_call 30; refine (callsIn_wide.2 (pbValid_any _ c _ HC0.out)).mono ?_; rintro e w5 ⟨ev, hb5⟩; rw [HV.out] at ev; subst ev; have kv0 := ((B0.out.alloc _).below hb5).cell; have kv1 := ((B1.out.alloc _).below hb5).cell; have kv2 := ((Blk.new w0 [.int .i64 (slackC c a)] 3).below hb5).cell; have HB5 := Lib.hid (bon (bal HB0.out (.cells #[.int .i64 (slackC c a)] 3)) hb5); have C0 := Lib.hid ((B0.out.alloc (.cells #[.int .i64 (slackC c a)] 3)).below hb5); have C1 := Lib.hid ((B1.out.alloc (.cells #[.int .i64 (slackC c a)] 3)).below hb5); have C2 := Lib.hid ((Blk.new w0 [.int .i64 (slackC c a)] 3).below hb5); have hz5 := C2.out.lt; have hz6 : w.heap.size < w5.heap.size := C0.out.lt; have hz7 : w.heap.size + 1 < w5.heap.size := C1.out.lt; clear hb5) | (refine ⟨trivial, ?_⟩; gi_at_call 62; refine (callsIn_wide.2 (slack_any _ _ c a _ HC.out HAW.out)).mono ?_; rintro e w0 ⟨rfl, hb0⟩; have kk0 := (BB.out.below hb0).cell; have kk1 := (BA.out.below hb0).cell; have HB0 := Lib.hid (bon HAL.out hb0); have B0 := Lib.hid (BB.out.below hb0); have B1 := Lib.hid (BA.out.below hb0); have HC0 := Lib.hid ((HC.out.below hb0).below (bal (Below.refl w0.heap.size w0) (.cells #[.int .i64 (slackC c a)] 3))); have hzz := B1.out.lt; have hzy : w.heap.size < w0.heap.size := (by omega); clear hb0))
      exact ⟨.slice none 0 0, by simp [results, Tryz.f63, go_sem], _, rfl, by rw [HF.out]; exact nil_ints _, HB5.out⟩
end Go.Proofs.YteblddnoegbalaaGreat
namespace Go.Proofs.YteblddnoegbalaaGreat
def nnS (f : Int → Int) (l : List (Int × Int)) : Int := sumW (fun x => decide (0 ≤ f x)) l
def CloC (f : Int → Int) (c : PBC) : Prop := c.bound ≤ nnS f (c.lits.zip c.coefs) ∧ ∀ x ∈ c.lits.zip c.coefs, f x.1 = 0 → x.2 ≤ nnS f (c.lits.zip c.coefs) - c.bound
def OddF (f : Int → Int) : Prop := ∀ l, l ≠ 0 → f (-l) = -f l
def CloDb (db : List PBC) : Prop := ∃ f, OddF f ∧ ∀ c ∈ db, CloC f c
noncomputable def failB (db : List PBC) : Bool := by classical exact decide (¬ CloDb db)
theorem failB_true {db : List PBC} : failB db = true ↔ ¬ CloDb db := by unfold failB; simp
theorem failB_false {db : List PBC} : failB db = false ↔ CloDb db := by unfold failB; simp
def litV (F : Int → Int) (l : Int) : Int := if 0 < l then F l else -F (-l)
theorem litV_odd (F : Int → Int) : OddF (litV F) := fun l hl => by
  unfold litV
  by_cases h : 0 < l
  · rw [if_neg (by omega), if_pos h, Int.neg_neg]
  · rw [if_pos (by omega), if_neg h, Int.neg_neg]
def mkA (n : Nat) (F : Int → Int) : List Int := (List.range n).map fun (i : Nat) => F (i + 1)
theorem mkA_len (n : Nat) (F : Int → Int) : (mkA n F).length = n := by simp [mkA]
theorem mkA_ix {n : Nat} {F : Int → Int} {i : Nat} (h : i < n) : ix (mkA n F) i = F (i + 1) := by simp [mkA, ix, List.getD, h]
def Tri (F : Int → Int) : Prop := ∀ v, F v = 1 ∨ F v = 0 ∨ F v = -1
theorem offB_mk {n : Nat} {F : Int → Int} (hF : Tri F) {l : Int} (h0 : l ≠ 0) (hl : l.natAbs ≤ n) : offB (mkA n F) l = decide (litV F l = -1) := by
  have hx : ix (mkA n F) (l.natAbs - 1) = F l.natAbs := by
    rw [mkA_ix (by omega)]
    congr 1
    omega
  unfold offB
  rw [mkA_len, hx, decide_eq_true hl, Bool.true_and]
  unfold litV
  by_cases h : 0 < l
  · rw [if_pos h, show (l.natAbs : Int) = l by omega, decide_eq_true h]
    rcases hF l with e | e | e <;> rw [e] <;> decide
  · rw [if_neg h, show (l.natAbs : Int) = -l by omega, decide_eq_false h]
    rcases hF (-l) with e | e | e <;> rw [e] <;> decide
theorem litV_tri {F : Int → Int} (hF : Tri F) (l : Int) : litV F l = 1 ∨ litV F l = 0 ∨ litV F l = -1 := by
  unfold litV
  split
  · exact hF l
  · rcases hF (-l) with e | e | e <;> rw [e] <;> decide
theorem valI_mk {n : Nat} {F : Int → Int} (hF : Tri F) {l : Int} (h0 : l ≠ 0) (hl : l.natAbs ≤ n) : valI (mkA n F) l = litV F l := by
  unfold valI
  rw [offB_mk hF h0 hl, offB_mk hF (l := -l) (by omega) (by omega), litV_odd F l h0]
  rcases litV_tri hF l with e | e | e <;> rw [e] <;> decide
theorem sumW_cong {t u : Int → Bool} : ∀ {l : List (Int × Int)}, (∀ x ∈ l, t x.1 = u x.1) → sumW t l = sumW u l
  | [], _ => rfl
  | x :: l, h => by
    unfold sumW
    rw [h x (.head _), sumW_cong fun y hy => h y (.tail _ hy)]
def Within (n : Nat) (c : PBC) : Prop := ∀ l ∈ c.lits, l.natAbs ≤ n
theorem zip_fst {L K : List Int} {x : Int × Int} (h : x ∈ L.zip K) : x.1 ∈ L := (List.of_mem_zip h).1
theorem pbV_lits {c : PBC} (hv : pbV c = true) {x : Int × Int} (h : x ∈ c.lits.zip c.coefs) : x.1 ≠ 0 ∧ x.1.natAbs ≤ 65536 ∧ 1 ≤ x.2 ∧ x.2 ≤ c.bound := by
  obtain ⟨a, b, d⟩ := okF_mem (pbV_parts hv).2.2.2.1 x h
  unfold plitB at a
  rw [decide_eq_true_eq] at a
  omega
theorem slack_mk {n : Nat} {F : Int → Int} (hF : Tri F) {c : PBC} (hv : pbV c = true) (hn : Within n c) : slackC c (mkA n F) = nnS (litV F) (c.lits.zip c.coefs) - c.bound := by
  unfold slackC nnS
  rw [if_pos hv]
  congr 1
  refine sumW_cong fun x hx => ?_
  unfold liB
  rw [valI_mk hF (pbV_lits hv hx).1 (hn _ (zip_fst hx))]
theorem units_mk {n : Nat} {F : Int → Int} (hF : Tri F) {c : PBC} (hv : pbV c = true) (hn : Within n c) (h0 : 0 ≤ slackC c (mkA n F)) {l : Int} :
    l ∈ unitsC c (mkA n F) ↔ ∃ x ∈ c.lits.zip c.coefs, x.1 = l ∧ litV F l = 0 ∧ nnS (litV F) (c.lits.zip c.coefs) - c.bound < x.2 := by
  unfold unitsC uniL
  rw [if_pos ⟨hv, h0⟩, slack_mk hF hv hn, List.mem_map]
  constructor
  · rintro ⟨x, hx, rfl⟩
    obtain ⟨h1, h2⟩ := List.mem_filter.1 hx
    simp only [Bool.and_eq_true, decide_eq_true_eq] at h2
    exact ⟨x, h1, rfl, by rw [← valI_mk hF (pbV_lits hv h1).1 (hn _ (zip_fst h1))]; exact h2.1, h2.2⟩
  · rintro ⟨x, hx, rfl, h1, h2⟩
    refine ⟨x, List.mem_filter.2 ⟨hx, ?_⟩, rfl⟩
    simp only [Bool.and_eq_true, decide_eq_true_eq]
    exact ⟨by rw [valI_mk hF (pbV_lits hv hx).1 (hn _ (zip_fst hx))]; exact h1, h2⟩
theorem sumW_le {t u : Int → Bool} : ∀ {l : List (Int × Int)}, (∀ x ∈ l, 0 ≤ x.2) → (∀ x ∈ l, t x.1 = true → u x.1 = true) → sumW t l ≤ sumW u l
  | [], _, _ => Int.le_refl _
  | x :: l, hp, h => by
    have ih := sumW_le (t := t) (u := u) (l := l) (fun y hy => hp y (.tail _ hy)) (fun y hy => h y (.tail _ hy))
    have h1 := hp x (.head _)
    have h2 := h x (.head _)
    unfold sumW
    by_cases ht : t x.1 = true
    · rw [if_pos ht, if_pos (h2 ht)]; omega
    · rw [if_neg ht]; split <;> omega
theorem sumW_lt {t u : Int → Bool} : ∀ {l : List (Int × Int)}, (∀ x ∈ l, 0 ≤ x.2) → (∀ x ∈ l, t x.1 = true → u x.1 = true) → ∀ {y : Int × Int}, y ∈ l → t y.1 = false → u y.1 = true → sumW t l + y.2 ≤ sumW u l
  | [], _, _, _, hy, _, _ => by cases hy
  | x :: l, hp, h, y, hy, h1, h2 => by
    have hp' : ∀ z ∈ l, 0 ≤ z.2 := fun z hz => hp z (.tail _ hz)
    have h' : ∀ z ∈ l, t z.1 = true → u z.1 = true := fun z hz => h z (.tail _ hz)
    have hx := hp x (.head _)
    unfold sumW
    rcases List.mem_cons.1 hy with rfl | hy
    · rw [if_neg (by rw [h1]; exact Bool.false_ne_true), if_pos h2]
      have := sumW_le hp' h'
      omega
    · have ih := sumW_lt hp' h' hy h1 h2
      by_cases ht : t x.1 = true
      · rw [if_pos ht, if_pos (h x (.head _) ht)]; omega
      · rw [if_neg ht]; split <;> omega
def Inv36 (db : List PBC) (F : Int → Int) : Prop := ∀ f, OddF f → (∀ c ∈ db, CloC f c) → ∀ v, 0 < v → (F v = 1 → 0 < f v) ∧ (F v = -1 → f v < 0)
theorem Inv36.start (db : List PBC) : Inv36 db (fun _ => 0) := fun f _ _ v _ => ⟨fun h => absurd (show (0 : Int) = 1 from h) (by decide), fun h => absurd (show (0 : Int) = -1 from h) (by decide)⟩
theorem Inv36.lit {db : List PBC} {F f : Int → Int} (h : Inv36 db F) (ho : OddF f) (hc : ∀ c ∈ db, CloC f c) {l : Int} (h0 : l ≠ 0) (hl : litV F l = -1) : f l < 0 := by
  unfold litV at hl
  by_cases h1 : 0 < l
  · rw [if_pos h1] at hl
    exact (h f ho hc l h1).2 hl
  · rw [if_neg h1] at hl
    have h2 := (h f ho hc (-l) (by omega)).1 (by omega)
    rw [ho l h0] at h2
    omega
theorem Inv36.mask {db : List PBC} {F f : Int → Int} (hF : Tri F) (h : Inv36 db F) (ho : OddF f) (hc : ∀ c ∈ db, CloC f c) {l : Int} (h0 : l ≠ 0) (hl : decide (0 ≤ f l) = true) : decide (0 ≤ litV F l) = true := by
  rw [decide_eq_true_eq] at hl ⊢
  rcases litV_tri hF l with e | e | e
  · omega
  · omega
  · have := h.lit ho hc h0 e; omega
theorem Inv36.bad {db : List PBC} {F : Int → Int} {n : Nat} (hF : Tri F) (h : Inv36 db F) {c : PBC} (hc : c ∈ db) (hv : pbV c = true) (hn : Within n c) (hs : slackC c (mkA n F) < 0) : failB db = true := by
  refine failB_true.2 ?_
  rintro ⟨f, ho, hcl⟩
  rw [slack_mk hF hv hn] at hs
  have h1 := (hcl c hc).1
  have h2 : nnS f (c.lits.zip c.coefs) ≤ nnS (litV F) (c.lits.zip c.coefs) := sumW_le (fun x hx => by have := pbV_lits hv hx; omega) (fun x hx hx' => h.mask hF ho hcl (pbV_lits hv hx).1 hx')
  omega
theorem Inv36.unit {db : List PBC} {F : Int → Int} {n : Nat} (hF : Tri F) (h : Inv36 db F) {c : PBC} (hc : c ∈ db) (hv : pbV c = true) (hn : Within n c) (hs : 0 ≤ slackC c (mkA n F)) {l : Int} (hl : l ∈ unitsC c (mkA n F)) {f : Int → Int} (ho : OddF f) (hcl : ∀ c ∈ db, CloC f c) : 0 < f l := by
  obtain ⟨x, hx, rfl, h1, h2⟩ := (units_mk hF hv hn hs).1 hl
  obtain ⟨k1, k2, k3, k4⟩ := pbV_lits hv hx
  have hle : nnS f (c.lits.zip c.coefs) ≤ nnS (litV F) (c.lits.zip c.coefs) := sumW_le (fun x hx => by have := pbV_lits hv hx; omega) (fun x hx hx' => h.mask hF ho hcl (pbV_lits hv hx).1 hx')
  obtain ⟨b1, b2⟩ := hcl c hc
  apply Decidable.byContradiction
  intro hf
  by_cases hz : f x.1 = 0
  · have := b2 x hx hz; omega
  · have hlt : nnS f (c.lits.zip c.coefs) + x.2 ≤ nnS (litV F) (c.lits.zip c.coefs) := sumW_lt (fun x hx => by have := pbV_lits hv hx; omega) (fun x hx hx' => h.mask hF ho hcl (pbV_lits hv hx).1 hx') hx (decide_eq_false (by omega)) (decide_eq_true (by omega))
    omega
def setV (F : Int → Int) (g : Int → Option Int) (v : Int) : Int := (g v).getD (F v)
def UnG (U : List Int) (g : Int → Option Int) : Prop := (∀ v s, g v = some s → (s = 1 ∧ v ∈ U) ∨ (s = -1 ∧ -v ∈ U)) ∧ ∀ l ∈ U, (g l.natAbs).isSome = true
theorem Inv36.next {db : List PBC} {F : Int → Int} {n : Nat} (hF : Tri F) (h : Inv36 db F) {c : PBC} (hc : c ∈ db) (hv : pbV c = true) (hn : Within n c) (hs : 0 ≤ slackC c (mkA n F)) {g : Int → Option Int} (hg : ∀ v s, g v = some s → (s = 1 ∧ v ∈ unitsC c (mkA n F)) ∨ (s = -1 ∧ -v ∈ unitsC c (mkA n F))) : Tri (setV F g) ∧ Inv36 db (setV F g) := by
  constructor
  · intro v
    unfold setV
    cases e : g v with
    | none => exact hF v
    | some s =>
      rcases hg v s e with ⟨rfl, -⟩ | ⟨rfl, -⟩
      · exact .inl rfl
      · exact .inr (.inr rfl)
  · intro f ho hcl v hv0
    unfold setV
    cases e : g v with
    | none => exact h f ho hcl v hv0
    | some s =>
      rcases hg v s e with ⟨rfl, hu⟩ | ⟨rfl, hu⟩
      · exact ⟨fun _ => h.unit hF hc hv hn hs hu ho hcl, fun e => absurd (show (1 : Int) = -1 from e) (by decide)⟩
      · refine ⟨fun e => absurd (show (-1 : Int) = 1 from e) (by decide), fun _ => ?_⟩
        have := h.unit hF hc hv hn hs hu ho hcl
        rw [ho v (by omega)] at this
        omega
theorem clo_none {F : Int → Int} {n : Nat} (hF : Tri F) {c : PBC} (hv : pbV c = true) (hn : Within n c) (hs : 0 ≤ slackC c (mkA n F)) (hu : unitsC c (mkA n F) = []) : CloC (litV F) c := by
  have h1 := slack_mk hF hv hn
  refine ⟨by omega, fun x hx h0 => ?_⟩
  apply Decidable.byContradiction
  intro hlt
  have : x.1 ∈ unitsC c (mkA n F) := (units_mk hF hv hn hs).2 ⟨x, hx, rfl, h0, by omega⟩
  rw [hu] at this
  cases this
def zerN (F : Int → Int) : Nat → Nat
  | 0 => 0
  | k + 1 => zerN F k + if F (k + 1) = 0 then 1 else 0
theorem zerN_mono {F G : Int → Int} (h : ∀ v, G v = 0 → F v = 0) : ∀ n, zerN G n ≤ zerN F n
  | 0 => Nat.le_refl _
  | k + 1 => by
    have ih := zerN_mono h k
    unfold zerN
    by_cases e : G (k + 1) = 0
    · rw [if_pos e, if_pos (h _ e)]; omega
    · rw [if_neg e]; split <;> omega
theorem zerN_lt {F G : Int → Int} (h : ∀ v, G v = 0 → F v = 0) : ∀ {n : Nat} {v : Nat}, 1 ≤ v → v ≤ n → F v = 0 → G v ≠ 0 → zerN G n < zerN F n
  | 0, v, h1, h2, _, _ => by omega
  | k + 1, v, h1, h2, h3, h4 => by
    unfold zerN
    by_cases e : v = k + 1
    · subst e
      have := zerN_mono h k
      rw [if_neg (by push_cast at h4; exact h4), if_pos (by push_cast at h3; exact h3)]
      omega
    · have ih := zerN_lt h (n := k) h1 (by omega) h3 h4
      by_cases e : G (k + 1) = 0
      · rw [if_pos e, if_pos (h _ e)]; omega
      · rw [if_neg e]; split <;> omega
theorem set_fewer {F : Int → Int} {n : Nat} (hF : Tri F) {c : PBC} (hv : pbV c = true) (hn : Within n c) (hs : 0 ≤ slackC c (mkA n F)) {g : Int → Option Int} (hg : UnG (unitsC c (mkA n F)) g) {l : Int} (hl : l ∈ unitsC c (mkA n F)) : zerN (setV F g) n < zerN F n := by
  obtain ⟨x, hx, rfl, h1, h2⟩ := (units_mk hF hv hn hs).1 hl
  have k1 := (pbV_lits hv hx).1
  have k2 := hn _ (zip_fst hx)
  have hnz : ∀ v s, g v = some s → s ≠ 0 := fun v s e => by rcases hg.1 v s e with ⟨rfl, -⟩ | ⟨rfl, -⟩ <;> decide
  refine zerN_lt (v := x.1.natAbs) (fun v hv0 => ?_) (by omega) k2 ?_ ?_
  · unfold setV at hv0
    cases e : g v with
    | none => rw [e] at hv0; exact hv0
    | some s => rw [e] at hv0; exact absurd hv0 (hnz v s e)
  · unfold litV at h1
    split at h1
    · rw [show (x.1.natAbs : Int) = x.1 by omega]; exact h1
    · rw [show (x.1.natAbs : Int) = -x.1 by omega]; omega
  · have := hg.2 _ hl
    unfold setV
    cases e : g (x.1.natAbs : Int) with
    | none => rw [e] at this; cases this
    | some s => exact hnz _ s e
theorem sat_clo {t : Int → Bool} (ht : Tot t) {db : List PBC} (_ : ∀ c ∈ db, pbV c = true) (h : ∀ c ∈ db, satC t c = true) : CloDb db := by
  have e : ∀ l : List (Int × Int), nnS (fun l => if t l then 1 else -1) l = sumW t l := fun l => sumW_cong fun x _ => by
    rcases Bool.eq_false_or_eq_true (t x.1) with e | e <;> simp [e]
  refine ⟨fun l => if t l then 1 else -1, fun l hl => ?_, fun c hc => ⟨?_, fun x hx h0 => ?_⟩⟩
  · dsimp only
    rw [ht l hl]
    cases t l <;> decide
  · have := h c hc
    unfold satC at this
    rw [e]
    exact of_decide_eq_true this
  · dsimp only at h0
    split at h0
    · exact absurd h0 (by decide)
    · exact absurd h0 (by decide)
theorem fail_sound {t : Int → Bool} (ht : Tot t) {db : List PBC} (hv : ∀ c ∈ db, pbV c = true) (hf : failB db = true) : ∃ c ∈ db, satC t c = false := by
  apply Classical.byContradiction
  intro hn
  refine failB_true.1 hf (sat_clo ht hv fun c hc => ?_)
  cases h : satC t c with
  | true => rfl
  | false => exact absurd ⟨c, hc, h⟩ hn
end Go.Proofs.YteblddnoegbalaaGreat
namespace Go.Proofs.YteblddnoegbalaaGreat
open Go.RowKit
def IxP (n : Nat) (g : Nat → Bool) (r : Int) : Prop := (r = -1 ∧ ∀ j, j < n → g j = false) ∨ ∃ k : Nat, k < n ∧ r = k ∧ g k = true ∧ ∀ j, j < k → g j = false
def IxR (n : Nat) (g : Nat → Bool) (w : World) (i : Value) (wx : World) : Prop := ∃ k : Nat, k ≤ n ∧ i = .int .i64 k ∧ (∀ j, j < k → g j = false) ∧ Below w.heap.size w wx
theorem IxP.any {n : Nat} {g : Nat → Bool} {r : Int} (h : IxP n g r) : decide (0 ≤ r) = anyR n g := by
  rcases h with ⟨rfl, h⟩ | ⟨k, h1, rfl, h2, h3⟩
  · rw [anyR_false h]; rfl
  · rw [anyR_true k h1 h2, decide_eq_true (by omega)]
theorem mem_ix {l : List Int} {x : Int} : x ∈ l ↔ ∃ k, k < l.length ∧ ix l k = x := by
  constructor
  · intro h
    obtain ⟨k, hk, e⟩ := List.mem_iff_getElem.1 h
    exact ⟨k, hk, by simp [ix, List.getD_eq_getElem?_getD, List.getElem?_eq_getElem hk, e]⟩
  · rintro ⟨k, hk, rfl⟩; exact ix_mem hk
set_option maxHeartbeats 1000000 in
theorem index_any (v : Value) (l : List Int) (x : Int) (w : World) (h : Ints w v l) :
    Calls Tryz.prog 149 #[v, .int .i64 x] w fun e w' => ∃ r, e = .returned (.int .i64 r) ∧ IxP l.length (fun j => decide (ix l j = x)) r ∧ w = w' := by
  obtain ⟨a1, c1, rfl, -, hl1, -, hcell⟩ := h.form
  clear h
  go_enter Tryz.func149, Tryz.ntmps149
  go_wp2
  go_loop [8] (fun i => ∃ k : Nat, k ≤ l.length ∧ i = .int .i64 k ∧ Hid (∀ j, j < k → decide (ix l j = x) = false)) (fun i => l.length - (intOf i).toNat)
  case atStart => exact ⟨0, by omega, rfl, Lib.hid (fun j hj => absurd hj (Nat.not_lt_zero _))⟩
  case round =>
    obtain ⟨k, hk, rfl, HA⟩ := hrel
    by_cases hlt : k < l.length
    · obtain ⟨b, off, rfl, hbl, hc⟩ := hcell (by omega)
      have hk1 := hc k hlt
      clear hc hcell
      by_cases g1 : ix l k = x
      · have HK : Hid (ix l k = x) := Lib.hid g1
        have g2 : (x == ix l k) = true := by simp [g1]
        clear g1
        go_wp2
        go_ret
        exact ⟨_, rfl, .inr ⟨k, hlt, rfl, decide_eq_true HK.out, HA.out⟩, rfl⟩
      · have HN := Lib.hid (lt_succ_all HA.out (decide_eq_false g1))
        have g2 : (x == ix l k) = false := by simp; exact fun e => g1 e.symm
        clear g1
        go_wp2
        first
          | (go_round
             case rel => (exact ⟨k + 1, by omega, by go_num, HN⟩)
             case measure => (simp [intOf]; omega))
          | (refine ⟨?_, ?_⟩
             · (exact ⟨k + 1, by omega, by go_num, HN⟩)
             · (simp [intOf]; omega))
    · have HN : Hid (∀ j, j < l.length → decide (ix l j = x) = false) := Lib.hid (fun j hj => HA.out j (by omega))
      go_wp2
      go_ret
      exact ⟨_, rfl, .inl ⟨rfl, HN.out⟩, rfl⟩
theorem anyR_mem (l : List Int) (x : Int) : anyR l.length (fun j => decide (ix l j = x)) = decide (x ∈ l) := by
  by_cases h : x ∈ l
  · obtain ⟨k, hk, e⟩ := mem_ix.1 h
    rw [decide_eq_true h, anyR_true k hk (decide_eq_true e)]
  · rw [decide_eq_false h, anyR_false (fun j hj => decide_eq_false (fun e => h (mem_ix.2 ⟨j, hj, e⟩)))]
theorem contains_any (v : Value) (l : List Int) (x : Int) (w : World) (h : Ints w v l) :
    Calls Tryz.prog 100 #[v, .int .i64 x] w fun e w' => e = .returned (.bool (decide (x ∈ l))) ∧ w = w' := by
  have HI := Lib.hid (index_any v l x w h)
  obtain ⟨a1, c1, rfl, -⟩ := h.form
  clear h
  go_enter Tryz.func100, Tryz.ntmps100
  go_wp2_with (go_at_call 149; refine (HI.out).mono ?_; rintro e w1 ⟨r, rfl, hr, rfl⟩; have HR := Lib.hid hr; clear hr)
  go_ret
  exact ⟨ret_bool (by rw [HR.out.any, anyR_mem]), rfl⟩
def setTo (n : Int) (S : List Int) (k : Nat) : Bool := decide (1 ≤ ix S k ∧ ix S k ≤ n) && (k == 0 || decide (ix S (k - 1) < ix S k))
def setB' (n : Int) (S : List Int) : Bool := allR S.length (setTo n S) && decide (0 < S.length)
set_option maxHeartbeats 2000000 in
theorem isSet_any (v vs : Value) (p : GP) (S : List Int) (w : World) (h : ProgIs w v p) (hs : Ints w vs S) :
    Calls Tryz.prog 163 #[v, vs] w fun e w' => e = .returned (.bool (setB' p.n S)) ∧ Below w.heap.size w w' := by
  obtain ⟨vn, vsh, vr, vm, rfl, hn, -⟩ := h
  have hal := bal (Below.refl w.heap.size w) (.cells #[.int .i64 p.n, vn, vsh, vr, vm] 33)
  have hbk := Blk.new w [.int .i64 p.n, vn, vsh, vr, vm] 33
  obtain ⟨a1, c1, rfl, -, hl1, -, hcell⟩ := (hs.below hal).form
  clear hs
  unfold InI at hn
  go_enter Tryz.func163, Tryz.ntmps163
  go_upto_region 1 with fail
  have kx := hbk.cell 0
  clear hbk
  generalize w.alloc (.cells #[.int .i64 p.n, vn, vsh, vr, vm] 33) = W0 at *
  go_wp2
  go_loop [9] (fun i => ∃ k : Nat, k ≤ S.length ∧ i = .int .i64 k ∧ Hid (∀ j, j < k → setTo p.n S j = true)) (fun i => S.length - (intOf i).toNat)
  case atStart => exact ⟨0, by omega, rfl, Lib.hid (fun j hj => absurd hj (Nat.not_lt_zero _))⟩
  case round =>
    obtain ⟨k, hk, rfl, HA⟩ := hrel
    have HF : Hid (∀ k, k < S.length → setTo p.n S k = false → setB' p.n S = false) := Lib.hid (fun k hk h => by unfold setB'; rw [allR_false k hk h]; rfl)
    by_cases hlt : k < S.length
    · obtain ⟨b, off, rfl, hbl, hc⟩ := hcell (by omega)
      have hk1 := hc k hlt
      by_cases h1 : ix S k < 1
      · have HN : Hid (setTo p.n S k = false) := Lib.hid (by unfold setTo; rw [decide_eq_false (by omega)]; rfl)
        clear hc hcell
        go_wp2
        go_ret
        exact ⟨ret_bool (HF.out k hlt HN.out).symm, hal⟩
      · by_cases h2 : p.n < ix S k
        · have HN : Hid (setTo p.n S k = false) := Lib.hid (by unfold setTo; rw [decide_eq_false (by omega)]; rfl)
          clear hc hcell
          go_wp2
          go_ret
          exact ⟨ret_bool (HF.out k hlt HN.out).symm, hal⟩
        · cases k with
          | zero =>
            have hk0 : W0.cell? ⟨b, off, none⟩ = some (.int .i64 (ix S 0)) := hc 0 hlt
            clear hk1
            have HN := Lib.hid (lt_succ_all HA.out (show setTo p.n S 0 = true by unfold setTo; rw [decide_eq_true (by omega)]; rfl))
            clear hc hcell
            go_wp2
            first
              | (go_round
                 case rel => (exact ⟨0 + 1, by omega, by go_num, HN⟩)
                 case measure => (simp [intOf]; omega))
              | (refine ⟨?_, ?_⟩
                 · (exact ⟨0 + 1, by omega, by go_num, HN⟩)
                 · (simp [intOf]; omega))
          | succ k =>
            have hk0 := hc k (by omega)
            have e1 : (((k + 1 : Nat) : Int) - 1).toNat = k := by omega
            by_cases h3 : ix S k < ix S (k + 1)
            · have HN := Lib.hid (lt_succ_all HA.out (show setTo p.n S (k + 1) = true by unfold setTo; rw [decide_eq_true (by omega), Nat.add_sub_cancel, decide_eq_true h3]; simp))
              clear hc hcell
              go_wp2
              first
                | (go_round
                   case rel => (exact ⟨k + 1 + 1, by omega, by go_num, HN⟩)
                   case measure => (simp [intOf]; omega))
                | (refine ⟨?_, ?_⟩
                   · (exact ⟨k + 1 + 1, by omega, by go_num, HN⟩)
                   · (simp [intOf]; omega))
            · have HN : Hid (setTo p.n S (k + 1) = false) := Lib.hid (by unfold setTo; rw [Nat.add_sub_cancel, decide_eq_false h3]; simp)
              clear hc hcell
              go_wp2
              go_ret
              exact ⟨ret_bool (HF.out (k + 1) hlt HN.out).symm, hal⟩
    · have HN : Hid (setB' p.n S = decide (0 < S.length)) := Lib.hid (by unfold setB'; rw [allR_true (fun j hj => HA.out j (by omega)), Bool.true_and])
      go_wp2
      go_ret
      exact ⟨ret_bool HN.out.symm, hal⟩
end Go.Proofs.YteblddnoegbalaaGreat
namespace Go.Proofs.YteblddnoegbalaaGreat
def negL (l : List Int) : List Int := l.map fun x => -x
def restI (r : GR) : Int := 1 - r.bound + sumTo r.w r.w.length
def compH (r : GR) (b : Int) : List PBC :=
  if r.sum then [(normP (r.body ++ [-b]) (r.w ++ [r.bound]) r.bound).1, (normP (negL r.body ++ [b]) (r.w ++ [max (restI r) 0]) (restI r)).1]
  else (r.body.map fun l => (clauseP [-b, l]).1) ++ [(clauseP (negL r.body ++ [b])).1]
def compR (r : GR) (b : Int) : List PBC := compH r b ++ (if r.choice then [] else [(clauseP (r.head ++ [-b])).1])
def supAt' (p : GP) (a : Int) : Nat → List Int
  | 0 => []
  | k + 1 => supAt' p a k ++ (if a ∈ (ixR p.rules k).head then [p.n + 1 + k] else [])
def atomC (p : GP) (a : Int) : PBC := (clauseP (supAt' p a p.rules.length ++ [-a])).1
def compTo (p : GP) : Nat → List PBC
  | 0 => []
  | k + 1 => compTo p k ++ compR (ixR p.rules k) (p.n + 1 + k)
def atomTo (p : GP) : Nat → List PBC
  | 0 => []
  | k + 1 => atomTo p k ++ [atomC p ((k : Int) + 1)]
def compL (p : GP) : List PBC := compTo p p.rules.length ++ atomTo p p.n.toNat
theorem ix_neg {l : List Int} {j : Nat} (h : j < l.length) : ix (negL l) j = -(ix l j) := by
  unfold ix negL
  simp [List.getD_eq_getElem?_getD, h]
theorem negL_len (l : List Int) : (negL l).length = l.length := by simp [negL]
theorem sumLK_nonneg {t : Int → Bool} {L K : List Int} : ∀ (i : Nat), (∀ j, j < i → 0 ≤ ix K j) → 0 ≤ sumLK t L K i
  | 0, _ => Int.le_refl _
  | i + 1, h => by
    have h1 := sumLK_nonneg (t := t) (L := L) i fun j hj => h j (by omega)
    have h2 := h i (by omega)
    simp only [sumLK]
    split <;> omega
theorem sumLK_neg {t : Int → Bool} (ht : Tot t) {L K : List Int} : ∀ (i : Nat), i ≤ L.length → (∀ j, j < i → ix L j ≠ 0) → sumLK t (negL L) K i = sumTo K i - sumLK t L K i
  | 0, _, _ => by simp [sumLK, sumTo]
  | i + 1, hi, h => by
    have ih := sumLK_neg ht (K := K) i (by omega) fun j hj => h j (by omega)
    simp only [sumLK, sumTo]
    rw [ih, ix_neg (by omega), ht _ (h i (by omega))]
    cases t (ix L i) <;> simp <;> omega
theorem normP_ok {L K : List Int} {B : Int} (hl : L.length = K.length) (hlen : L.length ≤ 65536) (hB : -1099511627776 ≤ B ∧ B ≤ 16777216) (hL : ∀ l ∈ L, plitB l = true) (hK : ∀ j, j < L.length → 0 ≤ ix K j ∧ ix K j ≤ 16777216) :
    normP L K B = ((normP L K B).1, 0) := by
  have hp : allR L.length (pokAt L K) = true := allR_true fun j hj => by
    unfold pokAt
    rw [hL _ (ix_mem hj), decide_eq_true (by have := hK j hj; omega)]
    rfl
  have hne : ∀ j, j < L.length → ix L j ≠ 0 := fun j hj => by
    have := hL _ (ix_mem hj)
    unfold plitB at this
    rw [decide_eq_true_eq] at this
    exact this.1
  have hbd : B - negTo L K L.length - sumI (fun v => lowI (byTo L K v L.length)) (keysOf L) ≤ 16777216 := by
    obtain ⟨t, ht⟩ : ∃ t : Int → Bool, t = fun l => if 0 < l then decide (byTo L K l L.length < 0) else !decide (byTo L K (-l) L.length < 0) := ⟨_, rfl⟩
    have htot : Tot t := fun l hl => by
      rw [ht]
      dsimp only
      rcases Int.lt_or_gt_of_ne hl with h | h
      · rw [if_pos (by omega), if_neg (by omega), Bool.not_not]
      · rw [if_neg (by omega), if_pos h, Int.neg_neg]
    have h1 := sum_vars htot (L := L) (K := K) (sorted_nodup (keys_sorted L)) (keys_pos hne) L.length fun j hj => ⟨hne j hj, mem_keys.2 ⟨_, ix_mem hj, rfl⟩⟩
    have h2 := sumLK_nonneg (t := t) (L := L) (K := K) L.length fun j hj => (hK j hj).1
    have h3 : sumI (fun v => if t v then byTo L K v L.length else 0) (keysOf L) = sumI (fun v => lowI (byTo L K v L.length)) (keysOf L) := sumI_congr fun v hv => by
      have hv := keys_pos hne v hv
      have e : t v = decide (byTo L K v L.length < 0) := by rw [ht]; exact if_pos hv
      rw [e]
      unfold lowI
      by_cases h : byTo L K v L.length < 0 <;> simp [h]
    rw [h3] at h1
    omega
  have h0 : (normP L K B).2 = 0 := by
    unfold normP
    rw [if_neg (by omega), if_neg (by rw [hp]; simp)]
    generalize B - negTo L K L.length - sumI (fun v => lowI (byTo L K v L.length)) (keysOf L) = bd at *
    unfold normC
    split
    · rfl
    split
    · rfl
    · rw [if_neg (by omega)]
  exact Prod.ext rfl h0
structure RuleV (r : GR) (n : Int) : Prop where
  rng : 0 ≤ n ∧ n ≤ 4000
  head : ∀ x ∈ r.head, 1 ≤ x ∧ x ≤ n
  body : ∀ x ∈ r.body, x ≠ 0 ∧ -n ≤ x ∧ x ≤ n
  len : r.body.length ≤ 8000 ∧ r.head.length ≤ 8000
  sum : r.sum = true → r.body.length = r.w.length ∧ (∀ j, j < r.w.length → 1 ≤ ix r.w j) ∧ sumTo r.w r.w.length ≤ 1048576 ∧ 0 ≤ r.bound ∧ r.bound ≤ 1048576
theorem sumTo_ge {K : List Int} (h : ∀ j, j < K.length → 1 ≤ ix K j) : ∀ (i : Nat), i ≤ K.length → 0 ≤ sumTo K i ∧ ∀ j, j < i → ix K j ≤ sumTo K i
  | 0, _ => ⟨Int.le_refl _, fun j hj => absurd hj (Nat.not_lt_zero _)⟩
  | i + 1, hi => by
    obtain ⟨h1, h2⟩ := sumTo_ge h i (by omega)
    have h3 := h i (by omega)
    simp only [sumTo]
    refine ⟨by omega, fun j hj => ?_⟩
    by_cases e : j = i
    · subst e; omega
    · have := h2 j (by omega); omega
section
variable {r : GR} {n b : Int}
def BVar (n b : Int) : Prop := n < b ∧ b ≤ 60000
end
theorem supAt_len (p : GP) (a : Int) : ∀ k, (supAt' p a k).length ≤ k
  | 0 => by simp [supAt']
  | k + 1 => by
    have := supAt_len p a k
    rw [supAt', List.length_append]
    split <;> simp <;> omega
structure CompV (p : GP) : Prop where
  n : 0 ≤ p.n ∧ p.n ≤ 4000
  rules : p.rules.length ≤ 40000
  rule : ∀ i, i < p.rules.length → RuleV (ixR p.rules i) p.n
theorem CompV.bvar {p : GP} (h : CompV p) {i : Nat} (hi : i < p.rules.length) : BVar p.n (p.n + 1 + i) := by
  have h1 := h.n
  have h2 := h.rules
  exact ⟨by omega, by omega⟩
def compN (r : GR) : Nat := (if r.sum then 2 else r.body.length + 1) + (if r.choice then 0 else 1)
def compNs (p : GP) : Nat → Nat
  | 0 => 0
  | k + 1 => compNs p k + compN (ixR p.rules k)
theorem compR_len (r : GR) (b : Int) : (compR r b).length = compN r := by
  unfold compR compH compN
  rw [List.length_append]
  cases r.sum <;> cases r.choice <;> simp
theorem compTo_len (p : GP) : ∀ k, (compTo p k).length = compNs p k
  | 0 => rfl
  | k + 1 => by rw [compTo, List.length_append, compTo_len p k, compR_len, compNs]
theorem atomTo_len (p : GP) : ∀ k, (atomTo p k).length = k
  | 0 => rfl
  | k + 1 => by rw [atomTo, List.length_append, atomTo_len p k]; rfl
end Go.Proofs.YteblddnoegbalaaGreat
