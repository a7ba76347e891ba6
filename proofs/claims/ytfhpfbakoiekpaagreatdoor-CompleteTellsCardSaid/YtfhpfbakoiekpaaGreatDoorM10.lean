/- My texts Val, ApS, merged. -/
import Derived.Test.YtfhpfbakoiekpaaGreatDoorM08
import Derived.RangeFuncBox
import Derived.Maps.OwnIn
import Derived.Test.YtfhpfbakoiekpaaGreatDoorM09
import Derived.Lib.RowBridge

/- slices.Values: its iterator's contract. -/
namespace Go.Proofs.YtfhpfbakoiekpaaGreatDoor
open Go.RowKit Go.Shelf
attribute [local go_sem] Oper.semAt_some

/-- An element of the list. -/
abbrev EV (l : List Int) := { x : Int // x ∈ l }
def evs {l : List Int} (xs : List (EV l)) : List Int := xs.map (·.1)
theorem evs_snoc {l : List Int} (xs : List (EV l)) (x : EV l) : evs (xs ++ [x]) = evs xs ++ [x.1] := by simp [evs]
theorem evs_len {l : List Int} (xs : List (EV l)) : (evs xs).length = xs.length := by simp [evs]

theorem values_any (a : Option Addr) (n c : Nat) (w : World) :
    Calls Tryz.prog 89 #[.slice a n c] w fun e w' => e = .returned (.func (.func 121) #[] #[.pointer (some ⟨w.heap.size, 0, none⟩)]) ∧ Below w.heap.size w w' ∧ Blk w' w.heap.size [.slice a n c] 23 ∧ w'.heap.size = w.heap.size + 1 := by
  have HB : Hid (Below w.heap.size w (w.alloc (.cells #[.slice a n c] 23))) := Lib.hid (bal (Below.refl _ _) _)
  have HK := Lib.hid (Blk.new w [.slice a n c] 23)
  go_enter Tryz.func89, Tryz.ntmps89
  go_wp2
  go_ret
  exact ⟨rfl, HB.out, HK.out, by simp⟩

def ValRel (l : List Int) (n0 : Nat) (W0 : World) (J : List (EV l) → World → Prop) (i : Value) (wr : World) : Prop :=
  ∃ (k : Nat) (pre : List (EV l)), k ≤ l.length ∧ i = .int .i64 k ∧ evs pre = l.take k ∧ J pre wr ∧ Below n0 W0 wr

theorem take_ixV (l : List Int) (k : Nat) (hk : k < l.length) : l.take (k + 1) = l.take k ++ [ix l k] := by
  rw [List.take_add_one, List.getElem?_eq_getElem hk]
  simp [ix, List.getD_eq_getElem?_getD, List.getElem?_eq_getElem hk]

set_option maxHeartbeats 4000000 in
set_option maxRecDepth 100000 in
theorem vals_stops (l : List Int) (wi w0 : World) (v : Value) (n0 cb : Nat) (hI : Ints wi v l) (hb : Below wi.heap.size wi w0) (hcb : Blk w0 cb [v] 23) (_h1 : cb < n0) (h2 : wi.heap.size ≤ n0) (_h3 : n0 ≤ w0.heap.size) (n : Nat) (hn : 1 ≤ n) :
    SeqStopsK Fence.wide n Tryz.prog 121 #[.pointer (some ⟨cb, 0, none⟩)] (fun x : EV l => #[.int .i64 x.1]) (Below n0)
      (fun xs => evs xs = l) (fun _ => True) l.length w0 := by
  intro lp J Jx W hW hJ hJx hY h0
  obtain ⟨a1, c1, rfl, -, hl1, -, hcell1⟩ := hI.form
  have HC1 := Lib.hid hcell1
  have HY := Lib.hid hY
  have HJ := Lib.hid hJ
  have HJX := Lib.hid hJx
  have H0 := Lib.hid h0
  have HBW : Hid (Below wi.heap.size wi W) := Lib.hid (hb.trans (hW.mono hb.size))
  have HCB := Lib.hid (hcb.below hW)
  have kp := HCB.out.cell
  have hzW := hW.size
  have hzb := hb.size
  clear hY hJ hJx h0 hW hcell1 hb hcb hI
  refine callsIn_of_wp Tryz.func121 rfl trivial ?_ rfl
  simp only [Tryz.ntmps121, List.size_toArray, List.length_cons, List.length_nil, Nat.reduceAdd, Nat.reduceSub, Array.replicate_succ, Array.replicate_zero, List.push_toArray, List.append_toArray, List.nil_append, List.cons_append]
  gi_wp2
  clear kp
  gi_loopw [7] (fun i wr => ValRel l n0 W J i wr) (fun i _ => l.length - (intOf i).toNat)
  case atStart => exact ⟨0, [], Nat.zero_le _, rfl, by simp [evs], H0.out, Below.refl _ _⟩
  case round =>
    obtain ⟨k, pre, hk, rfl, hpre, hj, hlim⟩ := hrel
    have HJR := Lib.hid hj
    have HPRE := Lib.hid hpre
    have HLIM := Lib.hid hlim
    clear hj hpre hlim
    by_cases hlt : k < l.length
    · obtain ⟨b1, o1, rfl, hb1, hc1⟩ := HC1.out (by omega)
      have k1 := ((cell_of_same (o := o1 + k) (HLIM.out.block b1 (by omega))).trans (bcell HBW.out _ _ hb1)).trans (hc1 k hlt)
      have HLN : Hid (pre.length < l.length) := Lib.hid (by
        have h1 := congrArg List.length HPRE.out
        rw [evs_len, List.length_take] at h1
        omega)
      have HM : Hid (ix l k ∈ l) := Lib.hid (ix_mem hlt)
      have HZ := Lib.hid (take_ixV l k hlt)
      clear hc1
      obtain ⟨fn, tmps, assign, body, hy, hR⟩ := HY.out pre ⟨_, HM.out⟩ wr HJR.out HLN.out
      dsimp only at hy
      gi_wp2_with (refine hR.mono ?_; rintro e W3 h3; obtain ⟨bb, rfl, hbt, hbf⟩ := yieldEnd2 h3; have HBT := Lib.hid hbt; have HBF := Lib.hid hbf; clear hbt hbf h3)
      case roundEnd =>
        obtain rfl : bb = true := by simpa using ‹(!bb) = false›
        exact ⟨⟨k + 1, pre ++ [_], hlt, by go_num, by rw [evs_snoc, HPRE.out, HZ.out], (HBT.out (by first | exact rfl | exact trivial)).1, HLIM.out.trans (HBT.out (by first | exact rfl | exact trivial)).2⟩, by simp [intOf]; omega⟩
      obtain rfl : bb = false := by simpa using ‹(!bb) = true›
      refine bodyPost_ret (results_none rfl _ _ _) rfl ?_
      exact ⟨⟨_, rfl⟩, .inr ⟨pre ++ [_], trivial, HBF.out (by first | exact rfl | exact trivial)⟩⟩
    · gi_wp2
      go_end0
      obtain rfl : k = l.length := by omega
      exact ⟨⟨_, rfl⟩, .inl ⟨pre, by rw [HPRE.out, List.take_length], HJR.out⟩⟩

end Go.Proofs.YtfhpfbakoiekpaaGreatDoor

/- slices.AppendSeq, Collect, Sorted over slices.Values, at ints; slices.Compact. -/
namespace Go.Proofs.YtfhpfbakoiekpaaGreatDoor
open Go.RowKit Go.Shelf Go.Sort
attribute [local go_sem] Oper.semAt_some

theorem own_of_row {base : Nat} {w : World} {v : Value} {l : List Int} (h : w.ownsRow base 3 1 v l.length (l.map (Value.int .i64))) (h8 : l.length * 8 ≤ 140737488351232) (hf : Fits l) : OwnI base w v l := by
  refine ⟨⟨?_, h8⟩, hf⟩
  rw [ix_map]
  exact h

set_option maxHeartbeats 4000000 in
set_option maxRecDepth 100000 in
theorem appSeq_any (l : List Int) (wi w : World) (v : Value) (cb : Nat) (hI : Ints wi v l) (hb : Below wi.heap.size wi w) (hcb : Blk w cb [v] 23) :
    Calls Tryz.prog 147 #[.slice none 0 0, .func (.func 121) #[] #[.pointer (some ⟨cb, 0, none⟩)]] w fun e w' => ∃ vo, e = .returned vo ∧ OwnI w.heap.size w' vo l ∧ Below w.heap.size w w' := by
  obtain ⟨i0, hi, hz0, hz1, hz2⟩ := info_parts infoI
  have h8 : l.length * 8 ≤ 140737488351232 := by obtain ⟨⟨_, _, _, _, _, h, _⟩, _⟩ := hI; exact h
  have hfit := hI.2
  have HFIT := Lib.hid hfit
  have hcl := hcb.lt
  have bO := Boxed.new w 23 (.slice none 0 0)
  have hB0 : Below w.heap.size w (w.alloc (.cells #[.slice none 0 0] 23)) := bal (Below.refl _ _) _
  have hzb := hb.size
  refine (callsIn_wide (n := 6)).1 ?_
  refine callsIn_of_wp_marks Tryz.func147 rfl trivial ?_ rfl
  simp only [Tryz.ntmps147, List.size_toArray, List.length_cons, List.length_nil, Nat.reduceAdd, Nat.reduceSub, Array.replicate_succ, Array.replicate_zero, List.push_toArray, List.append_toArray, List.nil_append, List.cons_append]
  gi_wp2
  refine wpIn_rangeFunc_ownG rfl (by omega) (gf := 121) (lb := #[.pointer (some ⟨cb, 0, none⟩)]) rfl trivial (enters_of Tryz.func121 (by kernel_rfl) rfl)
    (vals_stops l wi _ v w.heap.size cb hI (bon hb hB0) (hcb.below hB0) hcl hzb (by simp) 5 (by omega)) belowK_t (belowK_b (by simp)) (Below.refl _ _) (fun _ => rfl)
    (fun pre W => (∃ v, Boxed W w.heap.size 23 v ∧ W.ownsRow w.heap.size 3 1 v pre.length ((evs pre).map (Value.int .i64)) ∧ True) ∧ Below w.heap.size w W)
    (fun _ _ _ => False)
    (OwnFrom.and (Own.from (holdsRow_own w.heap.size w.heap.size 23 3 1 (fun pre : List (EV l) => pre.length) (fun pre => (evs pre).map (Value.int .i64)) (fun _ _ => True)) _) (ownFrom_below (Nat.le_refl _) (by simp)))
    (fun _ _ _ _ _ hs _ _ => hs)
    ⟨⟨_, bO, World.ownsRow_nil _ _ _ _, trivial⟩, hB0⟩
    (fun x => { tmps := #[.slice none 0 0, .func (.func 121) #[] #[.pointer (some ⟨cb, 0, none⟩)], .pointer (some ⟨w.heap.size, 0, none⟩), undef, .slice none 0 0, .int .i64 x.1, .func (.func 121) #[] #[.pointer (some ⟨cb, 0, none⟩)], .int .i64 x.1, undef, undef, undef, undef, undef], defers := [] }) ?assign ?body ?done ?stop
  case assign =>
    intro lp x W K hK
    gi_wp2
    exact hK
  case body =>
    rintro lp pre x W ⟨⟨v1, hv, hrow, -⟩, hB⟩ hlt
    have hc := hv.cell
    gi_wp2_with (gi_at_builtin; refine wpListIn_append_own _ rfl _ _ 23 rfl w.heap.size 3 i0 (.int .i64 0) 1 8 Tryz.underlying23 hi hz0 hz1 hz2 rfl (by decide) _ _ _ rfl (hrow.alloc _) ⟨W.heap.size, 0, none⟩ 1 1 [.int .i64 x.1] rfl rfl (cell_one_new _ _ _) (by simp [Value.oneCell']) (by unfold maxLen; omega) (by omega) (by have := hB.size; simp; omega) ?_; intro v' w1 hown' hgrow _; obtain ⟨g', cap', rfl⟩ := ownsRow_succ hown'; obtain ⟨hv1, hv2, hr2, hk2, hb2⟩ := hv.appended (by decide) hrow hB.size (Nat.le_refl _) hown' hgrow; have hc1 := hv1.cell; have hf1 := hv1.frozen)
    exact ⟨hk2.from _, hb2, ⟨_, hv2, by rw [evs_snoc]; simpa using hr2, trivial⟩, hB.trans hb2⟩
  case done =>
    rintro D ys W hD hys ⟨⟨v1, hv, hrow, -⟩, hB⟩ hK
    have hc := hv.cell
    gi_wp2
    refine ⟨by simp, .inl ⟨_, _, rfl, run_takeDeferred hK, ?_⟩⟩
    refine ⟨_, results_tmp rfl _ _ _, v1, rfl, own_of_row ?_ h8 HFIT.out, hB.trans (belowK_b (w := w) (Nat.le_refl _) W D _ _ (by simp at hD; omega) hK rfl rfl)⟩
    have h1 := ownsRow_putObj hrow (.deferred none) hK rfl
    rw [show ys.length = l.length by rw [← evs_len, hys], hys] at h1
    exact h1
  case stop =>
    rintro D c pre W _ _ h _
    exact h.elim

theorem collect_any (l : List Int) (wi w : World) (v : Value) (cb : Nat) (hI : Ints wi v l) (hb : Below wi.heap.size wi w) (hcb : Blk w cb [v] 23) :
    Calls Tryz.prog 120 #[.func (.func 121) #[] #[.pointer (some ⟨cb, 0, none⟩)]] w fun e w' => ∃ vo, e = .returned vo ∧ OwnI w.heap.size w' vo l ∧ Below w.heap.size w w' := by
  have HA := Lib.hid (appSeq_any l wi w v cb hI hb hcb)
  clear hI hb hcb
  go_enter Tryz.func120, Tryz.ntmps120
  go_wp2_with (go_at_call 147; (with_reducible refine (HA.out).mono ?_); rintro e w1 ⟨vo, rfl, ho, hb1⟩)
  go_ret
  exact ⟨vo, rfl, ho, hb1⟩

theorem sorted_any (l : List Int) (wi w : World) (v : Value) (cb : Nat) (hI : Ints wi v l) (hb : Below wi.heap.size wi w) (hcb : Blk w cb [v] 23) :
    Calls Tryz.prog 88 #[.func (.func 121) #[] #[.pointer (some ⟨cb, 0, none⟩)]] w fun e w' => ∃ vo, e = .returned vo ∧ OwnI w.heap.size w' vo (srt l) ∧ Below w.heap.size w w' := by
  have HA := Lib.hid (collect_any l wi w v cb hI hb hcb)
  clear hI hb hcb
  go_enter Tryz.func88, Tryz.ntmps88
  go_wp2_with (first
    | (go_at_call 107; (with_reducible refine (sortI_own HO.out).mono ?_); rintro e w2 ⟨rfl, ho2, hg2⟩)
    | (go_at_call 120; (with_reducible refine (HA.out).mono ?_); rintro e w1 ⟨vo, rfl, ho, hb1⟩; have HO := Lib.hid ho; obtain ⟨av, nv, rfl⟩ := ho.1.form; have HB1 := Lib.hid hb1; clear ho hb1))
  go_ret
  refine ⟨_, rfl, ho2, HB1.out.grown hg2 HB1.out.size (fun k ek => ?_)⟩
  rcases HO.out.1.1.2 with ⟨e, _⟩ | ⟨g, cap, cur, e, hbase, _⟩
  · rw [e] at ek; cases ek
  · rw [e] at ek
    simp only [Value.ownBlock, Option.some.injEq] at ek
    omega

theorem compact_mem {l : List Int} {x : Int} (h : x ∈ Lib.compact l) : x ∈ l := by
  unfold Lib.compact Lib.compactUpTo at h
  obtain ⟨j, hj, rfl⟩ := List.mem_map.1 h
  have h1 := List.mem_range.1 (List.mem_filter.1 hj).1
  show l.toArray[j]! ∈ l
  rw [geti l h1]
  exact List.getElem_mem h1

theorem grow_nil (w : World) : grow w #[] = w := by cases w; simp [grow]

theorem compactI_own {base : Nat} {w : World} {v : Value} {l : List Int} (h : OwnI base w v l) :
    Calls Tryz.prog 87 #[v] w fun e w' => ∃ a c, e = .returned (.slice a (Lib.compact l).length c) ∧ Ints w' (.slice a (Lib.compact l).length c) (Lib.compact l) ∧ w.grownBy w' v.ownBlock := by
  have hb8 := h.1.2
  have hfit : Fits (Lib.compact l) := fits_mem h.2 fun x hx => compact_mem hx
  rcases h.1.1.2 with ⟨rfl, e⟩ | ⟨g, cap, cur, rfl, hb, hg, hn, hm, hs, hx⟩
  · have e0 : l = [] := List.eq_nil_of_length_eq_zero e
    subst e0
    refine (Tryz.slices_Compact_int_empty none 0 w).mono ?_
    rintro e w' ⟨rfl, rfl⟩
    exact ⟨none, 0, rfl, nil_ints _, ⟨rfl, rfl, rfl, Nat.le_refl _, fun _ _ _ => rfl⟩⟩
  · rw [ix_map] at hx
    have hH := holds_of_blockI (ss := l) hg (by simpa using hx)
    have hc := Tryz.slices_Compact_int g 0 cap l w hH (by omega) hn
    refine hc.mono ?_
    rintro e w' ⟨rfl, q, rfl⟩
    have hle := Lib.compact_length_le l
    obtain ⟨ts, hts⟩ : ∃ ts, ts = Lib.compact l ++ List.replicate (l.length - (Lib.compact l).length) 0 := ⟨_, rfl⟩
    rw [← hts]
    have hl : ts.length = l.length := by rw [hts]; simp; omega
    have ew : putRow (Value.int .i64) (Sort.ahead w q) g 0 ts.toArray = grow (putRow (Value.int .i64) (Sort.ahead w q) g 0 ts.toArray) #[] := (grow_nil _).symm
    have h2 := ownsRow_sortedI (n := q) (os := #[]) (base := base) (ts := ts) hl hb hg hn hm hs
    have h3 := grownBy_sortedI (w := w) (g := g) (n := q) (os := #[]) ts.toArray
    rw [← ew] at h2 h3
    have hgl := (Array.getElem?_eq_some_iff.1 hg).1
    have hcap : (Lib.compact l).length ≤ cap := by omega
    refine ⟨_, _, rfl, ⟨⟨_, cap, rfl, hcap, hm, by omega, fun _ => ⟨g, 0, rfl, ?_, fun i hi => ?_⟩⟩, hfit⟩, h3⟩
    · have := h3.size
      omega
    · have h4 := h2.cellAt i (by omega)
      rw [Nat.zero_add, h4]
      simp only [List.getElem?_map]
      rw [hts, List.getElem?_append_left hi, List.getElem?_eq_getElem hi]
      simp [ix, List.getD_eq_getElem?_getD, List.getElem?_eq_getElem hi]

end Go.Proofs.YtfhpfbakoiekpaaGreatDoor
