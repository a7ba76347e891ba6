/- My texts Cut3, Cut4, Vr8, Cut5, merged. -/
import Derived.Test.YteblddnoegbalaaGreatM21
import Derived.Test.YteblddnoegbalaaGreatM11
import Derived.Test.YteblddnoegbalaaGreatM08
import Derived.Test.YteblddnoegbalaaGreatM07
import Derived.Test.YteblddnoegbalaaGreatM06
import Derived.Test.YteblddnoegbalaaGreatM05
import Derived.Test.YteblddnoegbalaaGreatM04
import Derived.Test.YteblddnoegbalaaGreatM03
import Derived.Test.YteblddnoegbalaaGreatM00
import Derived.Test.YteblddnoegbalaaGreatProg
import Derived.WalkKit
import Derived.Lib.Hide
import Derived.Deep.QuietTactic
import Derived.BigQuiet
import Derived.WalkSpells
import Derived.Lib.SliceRun
import Derived.MapKept
import Derived.Maps.OwnSet
import Derived.Maps.OwnOps
import Derived.Test.YteblddnoegbalaaGreatM02
import Derived.Test.YteblddnoegbalaaGreatM01
import Derived.Deep.AppendLies
import Derived.Lib.Bytealg
import Derived.Deep.DeepCutAuto
import Derived.RangeFuncNested
import Derived.RangeFuncBound
import Derived.RangeFuncCalls
import Derived.RangeFuncLeaves
import Derived.OwnWalkIn
import Derived.TacticsInMore
import Derived.LoopNIn
import Derived.LoopIn
import Derived.Stop.RegionWithIn
import Derived.Shelf.Abstract
import Derived.Sort.QuietThIn
import Derived.RangeFuncBox
import Derived.Maps.OwnIn
import Derived.Lib.SlicesCompact
import Derived.Shelf.Sort.Plain
import Derived.Shelf.Slices.CompactI
import Derived.Shelf.Slices.In.SortNone
import Derived.Shelf.Strconv.Itoa3
import Derived.Shelf.Strings.BuilderK
import Derived.Shelf.Slices.SearchI
import Derived.Shelf.Slices.Empties
import Derived.Sort.OwnSortedInts
import Derived.Lib.RowBridge
import Derived.Test.YteblddnoegbalaaGreatM10
import Derived.Test.YteblddnoegbalaaGreatM09
import Derived.Maps.RangeWalk
import Derived.Deep.OwnRows
import Derived.Test.YteblddnoegbalaaGreatM13
import Derived.Test.YteblddnoegbalaaGreatM12
import Derived.Laws.EntriesVeiled
import Derived.Deep.AppendSrc
import Derived.Test.YteblddnoegbalaaGreatM14
import Derived.Test.YteblddnoegbalaaGreatM16
import Derived.Lib.AppendZeros

namespace Go.Proofs.YteblddnoegbalaaGreat
open Go.RowKit
attribute [local go_sem] memUpon
structure CuSt (w0 : World) (c : PBC) (k : Int) (vl vk : Value) (W : World) : Prop where
  below : Below w0.heap.size w0 W
  is : PBIs W (.agg #[vl, vk, .int .i64 c.bound]) c
  box : Blk W w0.heap.size [vl, vk, .int .i64 c.bound] 25
  kbx : Blk W (w0.heap.size + 1) [.int .i64 k] 3
  res : Blk W (w0.heap.size + 2) [.slice none 0 0, .slice none 0 0, .int .i64 0] 25
theorem CuSt.on {w0 W W' : World} {c : PBC} {k : Int} {vl vk : Value} (h : CuSt w0 c k vl vk W) (hb : Below W.heap.size W W') : CuSt w0 c k vl vk W' := ⟨bon h.below hb, h.is.below hb, h.box.below hb, h.kbx.below hb, h.res.below hb⟩
theorem CuSt.new {w : World} {c : PBC} {k : Int} {vl vk : Value} (h : PBIs w (.agg #[vl, vk, .int .i64 c.bound]) c) : CuSt w c k vl vk (((w.alloc (.cells #[vl, vk, .int .i64 c.bound] 25)).alloc (.cells #[.int .i64 k] 3)).alloc (.cells #[.slice none 0 0, .slice none 0 0, .int .i64 0] 25)) :=
  have hb := bal (bal (bal (Below.refl w.heap.size w) _) _) _
  ⟨hb, h.below hb, (by repeat first | (refine Blk.newAt _ _ _ ?_; first | rfl | (simp only [World.size_alloc]; done) | (simp only [World.size_alloc]; omega)) | refine Blk.alloc ?_ _), (by repeat first | (refine Blk.newAt _ _ _ ?_; first | rfl | (simp only [World.size_alloc]; done) | (simp only [World.size_alloc]; omega)) | refine Blk.alloc ?_ _), (by repeat first | (refine Blk.newAt _ _ _ ?_; first | rfl | (simp only [World.size_alloc]; done) | (simp only [World.size_alloc]; omega)) | refine Blk.alloc ?_ _)⟩
def CuOut (w : World) (r : PBC × Int) (e : Ending) (w' : World) : Prop := ∃ vp, e = .returned (.tuple #[vp, .int .i64 r.2]) ∧ PBQ w.heap.size w' vp r.1 ∧ Below w.heap.size w w'
theorem CuOut.err {w W : World} {b : Nat} {n : Int} (h : Below w.heap.size w W) (hb : w.heap.size ≤ b) : CuOut w (zeroC, n) (.returned (.tuple #[.agg #[.slice none 0 0, .slice none 0 0, .int .i64 0], .int .i64 n])) (((W.setCell ⟨b, 0, none⟩ (.slice none 0 0)).setCell ⟨b, 1, none⟩ (.slice none 0 0)).setCell ⟨b, 2, none⟩ (.int .i64 0)) :=
  ⟨_, rfl, ⟨_, _, rfl, QRow.nil _ _, QRow.nil _ _, show InI (0 : Int) from (by unfold InI; omega), Nat.zero_le _, Nat.zero_le _⟩, below3 h b hb _ _ _⟩
theorem CuOut.ok {w W : World} {b : Nat} {r : PBC × Int} {al ak : Option Addr} {cl ck : Nat} (h : Below w.heap.size w W) (hb : w.heap.size ≤ b) {B : Nat} (hB : b < B) (h1 : QRow B W (.slice al r.1.lits.length cl) r.1.lits) (h2 : QRow B W (.slice ak r.1.coefs.length ck) r.1.coefs) (h3 : InI r.1.bound) (h4 : r.1.lits.length ≤ 65536) (h5 : r.1.coefs.length ≤ 65536) :
    CuOut w r (.returned (.tuple #[.agg #[.slice al r.1.lits.length cl, .slice ak r.1.coefs.length ck, .int .i64 r.1.bound], .int .i64 r.2])) (((W.setCell ⟨b, 0, none⟩ (.slice al r.1.lits.length cl)).setCell ⟨b, 1, none⟩ (.slice ak r.1.coefs.length ck)).setCell ⟨b, 2, none⟩ (.int .i64 r.1.bound)) :=
  ⟨_, rfl, ⟨_, _, rfl, (row3 h1 b hB _ _ _).mono (by omega), (row3 h2 b hB _ _ _).mono (by omega), h3, h4, h5⟩, below3 h b hb _ _ _⟩
theorem coef_range36 {c : PBC} (hv : pbV c = true) {n : Int} (h : n ∈ c.coefs ∨ n = c.bound) : 0 ≤ n ∧ n ≤ 16777216 := by
  have hp := pbV_parts hv
  rcases h with h | rfl
  · rw [← List.map_snd_zip (l₁ := c.lits) (l₂ := c.coefs) (by omega)] at h
    obtain ⟨x, hx, rfl⟩ := List.mem_map.1 h
    have := pbV_lits hv hx
    omega
  · omega
theorem mul_range36 {n k : Int} (hn : 0 ≤ n ∧ n ≤ 16777216) (hk : 1 ≤ k ∧ k ≤ 16777216) : 0 ≤ n * k ∧ n * k ≤ 281474976710656 := by
  constructor
  · exact Int.mul_nonneg hn.1 (by omega)
  · have h1 : n * k ≤ n * 16777216 := Int.mul_le_mul_of_nonneg_left hk.2 hn.1
    omega
theorem up_range36 {n k : Int} (hn : 0 ≤ n ∧ n ≤ 16777216) (hk : 1 ≤ k ∧ k ≤ 16777216) : InI (upI n k) := by
  have h1 : 0 ≤ (n + k - 1).tdiv k := by rw [Int.tdiv_eq_ediv_of_nonneg (by omega)]; exact Int.ediv_nonneg (by omega) (by omega)
  have h2 : (n + k - 1).tdiv k ≤ n + k - 1 := by rw [Int.tdiv_eq_ediv_of_nonneg (by omega)]; exact Int.ediv_le_self _ (by omega)
  unfold upI InI
  omega
set_option maxHeartbeats 4000000 in
set_option maxRecDepth 100000 in
theorem cmul_any (v : Value) (c : PBC) (k : Int) (w : World) (h : PBIs w v c) (hk : InI k) : Calls Tryz.prog 210 #[v, .int .i64 k] w (CuOut w (mulP c k)) := by
  have h0 := h
  obtain ⟨vl, vk, rfl, hL, hK, hbd⟩ := h
  obtain ⟨a1, c1, rfl, -⟩ := id hL.form
  obtain ⟨a2, c2, rfl, -⟩ := id hK.form
  have HS := Lib.hid (CuSt.new (k := k) h0)
  have hi := hk
  unfold InI at hi
  clear hL hK h0
  go_enter Tryz.func210, Tryz.ntmps210
  go_upto_region 1 with fail
  generalize ((w.alloc (.cells #[.slice a1 c.lits.length c1, .slice a2 c.coefs.length c2, .int .i64 c.bound] 25)).alloc (.cells #[.int .i64 k] 3)).alloc (.cells #[.slice none 0 0, .slice none 0 0, .int .i64 0] 25) = W0 at *
  have kb0 := HS.out.box.cell
  by_cases hbad : pbV c = false ∨ k < 1 ∨ 16777216 < k
  · have HF : Hid (mulP c k = (zeroC, 2)) := Lib.hid (by unfold mulP; rw [if_pos hbad])
    cases hv : pbV c with
    | false =>
      have HV := Lib.hid hv
      clear hv hbad
      go_wp2_with (go_at_call 30; (with_reducible refine (pbValid_any _ c _ HS.out.is).mono ?_); rintro e w5 ⟨ev, hb5⟩; rw [HV.out] at ev; subst ev; have HS5 := Lib.hid (HS.out.on hb5); have HBX5 := HS5.out.box.cell; have HKX5 := HS5.out.kbx.cell; have HRX5 := HS5.out.res.cell; have HRF5 := HS5.out.res.free; clear hb5)
      refine bodyPost_ret (v := .tuple #[.agg #[.slice none 0 0, .slice none 0 0, .int .i64 0], .int .i64 2]) (by have kz := ((HS5.out.res.set 0 (.slice none 0 0)).set 1 (.slice none 0 0)).set 2 (.int .i64 0); have kz2 := kz.cell; simp only [List.set_cons_zero, List.set_cons_succ] at kz2; simp [results, Tryz.f210, go_sem, kz2]) rfl ?_
      rw [HF.out]
      exact CuOut.err HS5.out.below (by omega)
    | true =>
      have HV := Lib.hid hv
      by_cases hk1 : k < 1
      · clear hv hbad
        go_wp2_with (go_at_call 30; (with_reducible refine (pbValid_any _ c _ HS.out.is).mono ?_); rintro e w5 ⟨ev, hb5⟩; rw [HV.out] at ev; subst ev; have HS5 := Lib.hid (HS.out.on hb5); have HBX5 := HS5.out.box.cell; have HKX5 := HS5.out.kbx.cell; have HRX5 := HS5.out.res.cell; have HRF5 := HS5.out.res.free; clear hb5)
        refine bodyPost_ret (v := .tuple #[.agg #[.slice none 0 0, .slice none 0 0, .int .i64 0], .int .i64 2]) (by have kz := ((HS5.out.res.set 0 (.slice none 0 0)).set 1 (.slice none 0 0)).set 2 (.int .i64 0); have kz2 := kz.cell; simp only [List.set_cons_zero, List.set_cons_succ] at kz2; simp [results, Tryz.f210, go_sem, kz2]) rfl ?_
        rw [HF.out]
        exact CuOut.err HS5.out.below (by omega)
      · have hk2 : 16777216 < k := by rcases hbad with h | h | h <;> first | omega | (rw [hv] at h; cases h)
        clear hv hbad
        go_wp2_with (go_at_call 30; (with_reducible refine (pbValid_any _ c _ HS.out.is).mono ?_); rintro e w5 ⟨ev, hb5⟩; rw [HV.out] at ev; subst ev; have HS5 := Lib.hid (HS.out.on hb5); have HBX5 := HS5.out.box.cell; have HKX5 := HS5.out.kbx.cell; have HRX5 := HS5.out.res.cell; have HRF5 := HS5.out.res.free; clear hb5)
        refine bodyPost_ret (v := .tuple #[.agg #[.slice none 0 0, .slice none 0 0, .int .i64 0], .int .i64 2]) (by have kz := ((HS5.out.res.set 0 (.slice none 0 0)).set 1 (.slice none 0 0)).set 2 (.int .i64 0); have kz2 := kz.cell; simp only [List.set_cons_zero, List.set_cons_succ] at kz2; simp [results, Tryz.f210, go_sem, kz2]) rfl ?_
        rw [HF.out]
        exact CuOut.err HS5.out.below (by omega)
  · have hv : pbV c = true := by cases e : pbV c with | true => rfl | false => exact absurd (.inl e) hbad
    have hkr : 1 ≤ k ∧ k ≤ 16777216 := by omega
    have hp := pbV_parts hv
    have hbk := mul_range36 (coef_range36 hv (.inr rfl)) hkr
    have HV := Lib.hid hv
    by_cases hbig : 16777216 < c.bound * k
    · have HF : Hid (mulP c k = (zeroC, 3)) := Lib.hid (by unfold mulP; rw [if_neg hbad, if_pos hbig])
      clear hbad hv hp
      go_wp2_with (go_at_call 30; (with_reducible refine (pbValid_any _ c _ HS.out.is).mono ?_); rintro e w5 ⟨ev, hb5⟩; rw [HV.out] at ev; subst ev; have HS5 := Lib.hid (HS.out.on hb5); have HBX5 := HS5.out.box.cell; have HKX5 := HS5.out.kbx.cell; have HRX5 := HS5.out.res.cell; have HRF5 := HS5.out.res.free; clear hb5)
      refine bodyPost_ret (v := .tuple #[.agg #[.slice none 0 0, .slice none 0 0, .int .i64 0], .int .i64 3]) (by have kz := ((HS5.out.res.set 0 (.slice none 0 0)).set 1 (.slice none 0 0)).set 2 (.int .i64 0); have kz2 := kz.cell; simp only [List.set_cons_zero, List.set_cons_succ] at kz2; simp [results, Tryz.f210, go_sem, kz2]) rfl ?_
      rw [HF.out]
      exact CuOut.err HS5.out.below (by omega)
    · have HF : Hid (mulP c k = normP c.lits (c.coefs.map (· * k)) (c.bound * k)) := Lib.hid (by unfold mulP; rw [if_neg hbad, if_neg hbig])
      have HFN : Hid (∀ n, n ∈ c.coefs ∨ n = c.bound → InI (n * k) ∧ ∀ w', Blk w' (w.heap.size + 1) [.int .i64 k] 3 → Calls Tryz.prog 232 #[.int .i64 n, .pointer (some ⟨w.heap.size + 1, 0, none⟩)] w' fun e w'' => e = .returned (.int .i64 (n * k)) ∧ Below w'.heap.size w' w'') := Lib.hid (fun n hn => by
        have := mul_range36 (coef_range36 hv hn) hkr
        exact ⟨by unfold InI; omega, fun w' hb => cmul1_any n k _ w' hb (by omega)⟩)
      have HLC : Hid (c.coefs.length ≤ 65536) := Lib.hid (by omega)
      clear hbad hv hp
      obtain ⟨N, hN⟩ : ∃ N, normP c.lits (c.coefs.map (· * k)) (c.bound * k) = N := ⟨_, rfl⟩
      rw [hN] at HF
      have HN := Lib.hid hN
      clear hN
      go_wp2_with (first | (go_at_call 30; (with_reducible refine (pbValid_any _ c _ HS.out.is).mono ?_); rintro e w5 ⟨ev, hb5⟩; rw [HV.out] at ev; subst ev; have HS5 := Lib.hid (HS.out.on hb5); have HBX5 := HS5.out.box.cell; have HKX5 := HS5.out.kbx.cell; have HRX5 := HS5.out.res.cell; have HRF5 := HS5.out.res.free; clear hb5) | (go_at_call 231; (with_reducible refine (scaled_mul _ c k (w.heap.size + 1) (fun n => n * k) _ HS5.out.is HS5.out.kbx HLC.out HFN.out).mono ?_); rintro e w6 ⟨vp, ev6, hq, hb6⟩; rw [HN.out] at ev6 hq; subst ev6; obtain ⟨vl, vk, rfl, hq1, hq2, hq3, hq4, hq5⟩ := hq; obtain ⟨al, cl, rfl⟩ := hq1.slen; obtain ⟨ak, ck, rfl⟩ := hq2.slen; have HQ1 := Lib.hid hq1; have HQ2 := Lib.hid hq2; have HQ3 := Lib.hid hq3; have HQ4 := Lib.hid hq4; have HQ5 := Lib.hid hq5; have HS6 := Lib.hid (HS5.out.on hb6); have HRX6 := HS6.out.res.cell; have HRF6 := HS6.out.res.free; clear hq1 hq2 hq3 hq4 hq5 hb6))
      refine bodyPost_ret (v := .tuple #[.agg #[.slice al N.1.lits.length cl, .slice ak N.1.coefs.length ck, .int .i64 N.1.bound], .int .i64 N.2]) (by have kz := ((HS6.out.res.set 0 (.slice al N.1.lits.length cl)).set 1 (.slice ak N.1.coefs.length ck)).set 2 (.int .i64 N.1.bound); have kz2 := kz.cell; simp only [List.set_cons_zero, List.set_cons_succ] at kz2; simp [results, Tryz.f210, go_sem, kz2]) rfl ?_
      rw [HF.out]
      exact CuOut.ok HS6.out.below (by omega) HS5.out.res.lt HQ1.out HQ2.out HQ3.out HQ4.out HQ5.out
set_option maxHeartbeats 4000000 in
set_option maxRecDepth 100000 in
theorem cdiv_any (v : Value) (c : PBC) (k : Int) (w : World) (h : PBIs w v c) (hk : InI k) : Calls Tryz.prog 212 #[v, .int .i64 k] w (CuOut w (divP c k)) := by
  have h0 := h
  obtain ⟨vl, vk, rfl, hL, hK, hbd⟩ := h
  obtain ⟨a1, c1, rfl, -⟩ := id hL.form
  obtain ⟨a2, c2, rfl, -⟩ := id hK.form
  have HS := Lib.hid (CuSt.new (k := k) h0)
  have hi := hk
  unfold InI at hi
  clear hL hK h0
  go_enter Tryz.func212, Tryz.ntmps212
  go_upto_region 1 with fail
  generalize ((w.alloc (.cells #[.slice a1 c.lits.length c1, .slice a2 c.coefs.length c2, .int .i64 c.bound] 25)).alloc (.cells #[.int .i64 k] 3)).alloc (.cells #[.slice none 0 0, .slice none 0 0, .int .i64 0] 25) = W0 at *
  have kb0 := HS.out.box.cell
  by_cases hbad : pbV c = false ∨ k < 1 ∨ 16777216 < k
  · have HF : Hid (divP c k = (zeroC, 2)) := Lib.hid (by unfold divP; rw [if_pos hbad])
    cases hv : pbV c with
    | false =>
      have HV := Lib.hid hv
      clear hv hbad
      go_wp2_with (go_at_call 30; (with_reducible refine (pbValid_any _ c _ HS.out.is).mono ?_); rintro e w5 ⟨ev, hb5⟩; rw [HV.out] at ev; subst ev; have HS5 := Lib.hid (HS.out.on hb5); have HBX5 := HS5.out.box.cell; have HKX5 := HS5.out.kbx.cell; have HRX5 := HS5.out.res.cell; have HRF5 := HS5.out.res.free; clear hb5)
      refine bodyPost_ret (v := .tuple #[.agg #[.slice none 0 0, .slice none 0 0, .int .i64 0], .int .i64 2]) (by have kz := ((HS5.out.res.set 0 (.slice none 0 0)).set 1 (.slice none 0 0)).set 2 (.int .i64 0); have kz2 := kz.cell; simp only [List.set_cons_zero, List.set_cons_succ] at kz2; simp [results, Tryz.f212, go_sem, kz2]) rfl ?_
      rw [HF.out]
      exact CuOut.err HS5.out.below (by omega)
    | true =>
      have HV := Lib.hid hv
      by_cases hk1 : k < 1
      · clear hv hbad
        go_wp2_with (go_at_call 30; (with_reducible refine (pbValid_any _ c _ HS.out.is).mono ?_); rintro e w5 ⟨ev, hb5⟩; rw [HV.out] at ev; subst ev; have HS5 := Lib.hid (HS.out.on hb5); have HBX5 := HS5.out.box.cell; have HKX5 := HS5.out.kbx.cell; have HRX5 := HS5.out.res.cell; have HRF5 := HS5.out.res.free; clear hb5)
        refine bodyPost_ret (v := .tuple #[.agg #[.slice none 0 0, .slice none 0 0, .int .i64 0], .int .i64 2]) (by have kz := ((HS5.out.res.set 0 (.slice none 0 0)).set 1 (.slice none 0 0)).set 2 (.int .i64 0); have kz2 := kz.cell; simp only [List.set_cons_zero, List.set_cons_succ] at kz2; simp [results, Tryz.f212, go_sem, kz2]) rfl ?_
        rw [HF.out]
        exact CuOut.err HS5.out.below (by omega)
      · have hk2 : 16777216 < k := by rcases hbad with h | h | h <;> first | omega | (rw [hv] at h; cases h)
        clear hv hbad
        go_wp2_with (go_at_call 30; (with_reducible refine (pbValid_any _ c _ HS.out.is).mono ?_); rintro e w5 ⟨ev, hb5⟩; rw [HV.out] at ev; subst ev; have HS5 := Lib.hid (HS.out.on hb5); have HBX5 := HS5.out.box.cell; have HKX5 := HS5.out.kbx.cell; have HRX5 := HS5.out.res.cell; have HRF5 := HS5.out.res.free; clear hb5)
        refine bodyPost_ret (v := .tuple #[.agg #[.slice none 0 0, .slice none 0 0, .int .i64 0], .int .i64 2]) (by have kz := ((HS5.out.res.set 0 (.slice none 0 0)).set 1 (.slice none 0 0)).set 2 (.int .i64 0); have kz2 := kz.cell; simp only [List.set_cons_zero, List.set_cons_succ] at kz2; simp [results, Tryz.f212, go_sem, kz2]) rfl ?_
        rw [HF.out]
        exact CuOut.err HS5.out.below (by omega)
  · have hv : pbV c = true := by cases e : pbV c with | true => rfl | false => exact absurd (.inl e) hbad
    have hkr : 1 ≤ k ∧ k ≤ 16777216 := by omega
    have hp := pbV_parts hv
    have HV := Lib.hid hv
    have HF : Hid (divP c k = normP c.lits (c.coefs.map (upI · k)) (upI c.bound k)) := Lib.hid (by unfold divP; rw [if_neg hbad])
    have HFN : Hid (∀ n, n ∈ c.coefs ∨ n = c.bound → InI (upI n k) ∧ ∀ w', Blk w' (w.heap.size + 1) [.int .i64 k] 3 → Calls Tryz.prog 233 #[.int .i64 n, .pointer (some ⟨w.heap.size + 1, 0, none⟩)] w' fun e w'' => e = .returned (.int .i64 (upI n k)) ∧ Below w'.heap.size w' w'') := Lib.hid (fun n hn => by
      have := coef_range36 hv hn
      exact ⟨up_range36 this hkr, fun w' hb => cdiv1_any n k _ w' hb (by omega) (by omega)⟩)
    have HLC : Hid (c.coefs.length ≤ 65536) := Lib.hid (by omega)
    clear hbad hv hp
    obtain ⟨N, hN⟩ : ∃ N, normP c.lits (c.coefs.map (upI · k)) (upI c.bound k) = N := ⟨_, rfl⟩
    rw [hN] at HF
    have HN := Lib.hid hN
    clear hN
    go_wp2_with (first | (go_at_call 30; (with_reducible refine (pbValid_any _ c _ HS.out.is).mono ?_); rintro e w5 ⟨ev, hb5⟩; rw [HV.out] at ev; subst ev; have HS5 := Lib.hid (HS.out.on hb5); have HBX5 := HS5.out.box.cell; have HKX5 := HS5.out.kbx.cell; have HRX5 := HS5.out.res.cell; have HRF5 := HS5.out.res.free; clear hb5) | (go_at_call 231; (with_reducible refine (scaled_div _ c k (w.heap.size + 1) (fun n => upI n k) _ HS5.out.is HS5.out.kbx HLC.out HFN.out).mono ?_); rintro e w6 ⟨vp, ev6, hq, hb6⟩; rw [HN.out] at ev6 hq; subst ev6; obtain ⟨vl, vk, rfl, hq1, hq2, hq3, hq4, hq5⟩ := hq; obtain ⟨al, cl, rfl⟩ := hq1.slen; obtain ⟨ak, ck, rfl⟩ := hq2.slen; have HQ1 := Lib.hid hq1; have HQ2 := Lib.hid hq2; have HQ3 := Lib.hid hq3; have HQ4 := Lib.hid hq4; have HQ5 := Lib.hid hq5; have HS6 := Lib.hid (HS5.out.on hb6); have HRX6 := HS6.out.res.cell; have HRF6 := HS6.out.res.free; clear hq1 hq2 hq3 hq4 hq5 hb6))
    refine bodyPost_ret (v := .tuple #[.agg #[.slice al N.1.lits.length cl, .slice ak N.1.coefs.length ck, .int .i64 N.1.bound], .int .i64 N.2]) (by have kz := ((HS6.out.res.set 0 (.slice al N.1.lits.length cl)).set 1 (.slice ak N.1.coefs.length ck)).set 2 (.int .i64 N.1.bound); have kz2 := kz.cell; simp only [List.set_cons_zero, List.set_cons_succ] at kz2; simp [results, Tryz.f212, go_sem, kz2]) rfl ?_
    rw [HF.out]
    exact CuOut.ok HS6.out.below (by omega) HS5.out.res.lt HQ1.out HQ2.out HQ3.out HQ4.out HQ5.out
end Go.Proofs.YteblddnoegbalaaGreat
namespace Go.Proofs.YteblddnoegbalaaGreat
open Go.RowKit
attribute [local go_sem] memUpon
def nmR (B : Nat) (N : PBC × Int) (v : Value) (w : World) : Prop := ∃ al cl ak ck, v = .tuple #[.agg #[.slice al N.1.lits.length cl, .slice ak N.1.coefs.length ck, .int .i64 N.1.bound], .int .i64 N.2] ∧ QRow B w (.slice al N.1.lits.length cl) N.1.lits ∧ QRow B w (.slice ak N.1.coefs.length ck) N.1.coefs ∧ InI N.1.bound ∧ N.1.lits.length ≤ 65536 ∧ N.1.coefs.length ≤ 65536
theorem nmR.below {B : Nat} {N : PBC × Int} {v : Value} {w w' : World} (h : nmR B N v w) (hb : Below w.heap.size w w') : nmR B N v w' := by
  obtain ⟨al, cl, ak, ck, h1, h2, h3, h4⟩ := h
  exact ⟨al, cl, ak, ck, h1, h2.below hb, h3.below hb, h4⟩
theorem nmR.of {B : Nat} {v1 v2 : Value} {L K : List Int} {b : Int} {w : World} {N : PBC × Int} (hN : normP L K b = N) (h1 : Ints w v1 L) (h2 : Ints w v2 K) (hB : InI b) (hb : B ≤ w.heap.size) :
    Calls Tryz.prog 44 #[v1, v2, .int .i64 b] w fun e w' => ∃ v, e = .returned v ∧ Below w.heap.size w w' ∧ nmR B N v w' := by
  refine (norm_any v1 v2 L K b w h1 h2 hB).mono ?_
  rintro e w' ⟨vp, rfl, hq, hb1⟩
  rw [hN] at hq ⊢
  obtain ⟨vl, vk, rfl, h3, h4, h5, h6, h7⟩ := hq
  obtain ⟨al, cl, rfl⟩ := h3.slen
  obtain ⟨ak, ck, rfl⟩ := h4.slen
  exact ⟨_, rfl, hb1, al, cl, ak, ck, rfl, h3.mono hb, h4.mono hb, h5, h6, h7⟩
def adΦ (B i1 i2 i3 i4 i5 : Nat) (x1 x2 y1 y2 : Value) (L K : List Int) (N : PBC × Int) (i : Nat) (_ : List Value) (v : Value) (lo hi : Nat) (w : World) : Prop :=
  (i = i1 ∧ v = .slice (some ⟨lo, 0, none⟩) 2 2 ∧ lo < hi ∧ Blk w lo [x1, x2] 23) ∨ (i = i2 ∧ (∃ a c, v = .slice a L.length c) ∧ QRow B w v L) ∨
  (i = i3 ∧ v = .slice (some ⟨lo, 0, none⟩) 2 2 ∧ lo < hi ∧ Blk w lo [y1, y2] 23) ∨ (i = i4 ∧ (∃ a c, v = .slice a K.length c) ∧ QRow B w v K) ∨ (i = i5 ∧ nmR B N v w)
theorem adΦ_later (B i1 i2 i3 i4 i5 : Nat) (x1 x2 y1 y2 : Value) (L K : List Int) (N : PBC × Int) : ∀ i args v lo hi w w', adΦ B i1 i2 i3 i4 i5 x1 x2 y1 y2 L K N i args v lo hi w → Below w.heap.size w w' → adΦ B i1 i2 i3 i4 i5 x1 x2 y1 y2 L K N i args v lo hi w' := fun _ _ _ _ _ _ _ h hb => by
  rcases h with ⟨e, h1, h2, h3⟩ | ⟨e, h1, h2⟩ | ⟨e, h1, h2, h3⟩ | ⟨e, h1, h2⟩ | ⟨e, h1⟩
  · exact .inl ⟨e, h1, h2, h3.below hb⟩
  · exact .inr (.inl ⟨e, h1, h2.below hb⟩)
  · exact .inr (.inr (.inl ⟨e, h1, h2, h3.below hb⟩))
  · exact .inr (.inr (.inr (.inl ⟨e, h1, h2.below hb⟩)))
  · exact .inr (.inr (.inr (.inr ⟨e, h1.below hb⟩)))
section
variable {B : Nat} {x1 x2 y1 y2 v : Value} {L K : List Int} {N : PBC × Int} {args : List Value} {lo hi : Nat} {w : World} {i1 i2 i3 i4 i5 : Nat}
theorem adΦ.one (h : adΦ B i1 i2 i3 i4 i5 x1 x2 y1 y2 L K N i1 args v lo hi w) (h2 : i1 ≠ i2) (h3 : i1 ≠ i3) (h4 : i1 ≠ i4) (h5 : i1 ≠ i5) : v = .slice (some ⟨lo, 0, none⟩) 2 2 ∧ lo < hi ∧ Blk w lo [x1, x2] 23 := by
  rcases h with ⟨-, h⟩ | ⟨e, -⟩ | ⟨e, -⟩ | ⟨e, -⟩ | ⟨e, -⟩
  · exact h
  all_goals exact absurd e (by assumption)
theorem adΦ.two (h : adΦ B i1 i2 i3 i4 i5 x1 x2 y1 y2 L K N i2 args v lo hi w) (h2 : i2 ≠ i1) (h3 : i2 ≠ i3) (h4 : i2 ≠ i4) (h5 : i2 ≠ i5) : (∃ a c, v = .slice a L.length c) ∧ QRow B w v L := by
  rcases h with ⟨e, -⟩ | ⟨-, h⟩ | ⟨e, -⟩ | ⟨e, -⟩ | ⟨e, -⟩
  · exact absurd e h2
  · exact h
  all_goals exact absurd e (by assumption)
theorem adΦ.three (h : adΦ B i1 i2 i3 i4 i5 x1 x2 y1 y2 L K N i3 args v lo hi w) (h2 : i3 ≠ i1) (h3 : i3 ≠ i2) (h4 : i3 ≠ i4) (h5 : i3 ≠ i5) : v = .slice (some ⟨lo, 0, none⟩) 2 2 ∧ lo < hi ∧ Blk w lo [y1, y2] 23 := by
  rcases h with ⟨e, -⟩ | ⟨e, -⟩ | ⟨-, h⟩ | ⟨e, -⟩ | ⟨e, -⟩
  · exact absurd e h2
  · exact absurd e h3
  · exact h
  all_goals exact absurd e (by assumption)
theorem adΦ.four (h : adΦ B i1 i2 i3 i4 i5 x1 x2 y1 y2 L K N i4 args v lo hi w) (h2 : i4 ≠ i1) (h3 : i4 ≠ i2) (h4 : i4 ≠ i3) (h5 : i4 ≠ i5) : (∃ a c, v = .slice a K.length c) ∧ QRow B w v K := by
  rcases h with ⟨e, -⟩ | ⟨e, -⟩ | ⟨e, -⟩ | ⟨-, h⟩ | ⟨e, -⟩
  · exact absurd e h2
  · exact absurd e h3
  · exact absurd e h4
  · exact h
  · exact absurd e h5
theorem adΦ.five (h : adΦ B i1 i2 i3 i4 i5 x1 x2 y1 y2 L K N i5 args v lo hi w) (h2 : i5 ≠ i1) (h3 : i5 ≠ i2) (h4 : i5 ≠ i3) (h5 : i5 ≠ i4) : nmR B N v w := by
  rcases h with ⟨e, -⟩ | ⟨e, -⟩ | ⟨e, -⟩ | ⟨e, -⟩ | ⟨-, h⟩
  · exact absurd e h2
  · exact absurd e h3
  · exact absurd e h4
  · exact absurd e h5
  · exact h
theorem concat_sc {b : Nat} {v1 v2 : Value} {l1 l2 : List Int} (hb : Blk w b [v1, v2] 23) (h1 : Ints w v1 l1) (h2 : Ints w v2 l2) (hl : l1.length + l2.length ≤ 200000) (hB : B ≤ w.heap.size) :
    Calls Tryz.prog 230 #[.slice (some ⟨b, 0, none⟩) 2 2] w fun e w' => ∃ v, e = .returned v ∧ Below w.heap.size w w' ∧ (∃ a c, v = .slice a (l1 ++ l2).length c) ∧ QRow B w' v (l1 ++ l2) :=
  (concat2 b v1 v2 l1 l2 w hb h1 h2 hl).mono fun _ _ ⟨v, h3, h4, h5⟩ => ⟨v, h3, h5, h4.slen, h4.mono hB⟩
end
structure AdSt (w0 : World) (c d : PBC) (vl vk ul uk : Value) (W : World) : Prop where
  below : Below w0.heap.size w0 W
  is : PBIs W (.agg #[vl, vk, .int .i64 c.bound]) c
  is2 : PBIs W (.agg #[ul, uk, .int .i64 d.bound]) d
  box : Blk W w0.heap.size [vl, vk, .int .i64 c.bound] 25
  box2 : Blk W (w0.heap.size + 1) [ul, uk, .int .i64 d.bound] 25
  res : Blk W (w0.heap.size + 2) [.slice none 0 0, .slice none 0 0, .int .i64 0] 25
theorem AdSt.on {w0 W W' : World} {c d : PBC} {vl vk ul uk : Value} (h : AdSt w0 c d vl vk ul uk W) (hb : Below W.heap.size W W') : AdSt w0 c d vl vk ul uk W' := ⟨bon h.below hb, h.is.below hb, h.is2.below hb, h.box.below hb, h.box2.below hb, h.res.below hb⟩
theorem AdSt.new {w : World} {c d : PBC} {vl vk ul uk : Value} (h : PBIs w (.agg #[vl, vk, .int .i64 c.bound]) c) (h2 : PBIs w (.agg #[ul, uk, .int .i64 d.bound]) d) : AdSt w c d vl vk ul uk (((w.alloc (.cells #[vl, vk, .int .i64 c.bound] 25)).alloc (.cells #[ul, uk, .int .i64 d.bound] 25)).alloc (.cells #[.slice none 0 0, .slice none 0 0, .int .i64 0] 25)) :=
  have hb := bal (bal (bal (Below.refl w.heap.size w) _) _) _
  ⟨hb, h.below hb, h2.below hb, (by repeat first | (refine Blk.newAt _ _ _ ?_; first | rfl | (simp only [World.size_alloc]; done) | (simp only [World.size_alloc]; omega)) | refine Blk.alloc ?_ _), (by repeat first | (refine Blk.newAt _ _ _ ?_; first | rfl | (simp only [World.size_alloc]; done) | (simp only [World.size_alloc]; omega)) | refine Blk.alloc ?_ _), (by repeat first | (refine Blk.newAt _ _ _ ?_; first | rfl | (simp only [World.size_alloc]; done) | (simp only [World.size_alloc]; omega)) | refine Blk.alloc ?_ _)⟩
set_option maxHeartbeats 8000000 in
set_option maxRecDepth 100000 in
theorem cadd_any (v u : Value) (c d : PBC) (w : World) (h : PBIs w v c) (h2 : PBIs w u d) : Calls Tryz.prog 207 #[v, u] w (CuOut w (addP c d)) := by
  have h0 := h
  have h02 := h2
  obtain ⟨vl, vk, rfl, hL, hK, hbd⟩ := h
  obtain ⟨a1, c1, rfl, -⟩ := id hL.form
  obtain ⟨a2, c2, rfl, -⟩ := id hK.form
  obtain ⟨ul, uk, rfl, hL2, hK2, hbd2⟩ := h2
  obtain ⟨a3, c3, rfl, -⟩ := id hL2.form
  obtain ⟨a4, c4, rfl, -⟩ := id hK2.form
  have HS := Lib.hid (AdSt.new h0 h02)
  have HI := Lib.hid (And.intro (And.intro hL hL2) (And.intro hK hK2))
  unfold InI at hbd hbd2
  clear hL hK h0 hL2 hK2 h02
  go_enter Tryz.func207, Tryz.ntmps207
  go_upto_region 1 with fail
  generalize ((w.alloc (.cells #[.slice a1 c.lits.length c1, .slice a2 c.coefs.length c2, .int .i64 c.bound] 25)).alloc (.cells #[.slice a3 d.lits.length c3, .slice a4 d.coefs.length c4, .int .i64 d.bound] 25)).alloc (.cells #[.slice none 0 0, .slice none 0 0, .int .i64 0] 25) = W0 at *
  have kb0 := HS.out.box.cell
  have kb1 := HS.out.box2.cell
  cases hv : pbV c with
  | false =>
    have HV := Lib.hid hv
    have HF : Hid (addP c d = (zeroC, 2)) := Lib.hid (by unfold addP; rw [hv]; rfl)
    clear hv
    go_wp2_with (go_at_call 30; (with_reducible refine (pbValid_any _ c _ HS.out.is).mono ?_); rintro e w5 ⟨ev, hb5⟩; rw [HV.out] at ev; subst ev; have HS5 := Lib.hid (HS.out.on hb5); have HBX5 := HS5.out.box.cell; have HKX5 := HS5.out.box2.cell; have HRX5 := HS5.out.res.cell; have HRF5 := HS5.out.res.free; clear hb5)
    refine bodyPost_ret (v := .tuple #[.agg #[.slice none 0 0, .slice none 0 0, .int .i64 0], .int .i64 2]) (by have kz := ((HS5.out.res.set 0 (.slice none 0 0)).set 1 (.slice none 0 0)).set 2 (.int .i64 0); have kz2 := kz.cell; simp only [List.set_cons_zero, List.set_cons_succ] at kz2; simp [results, Tryz.f207, go_sem, kz2]) rfl ?_
    rw [HF.out]
    exact CuOut.err HS5.out.below (by omega)
  | true =>
    have HV := Lib.hid hv
    cases hv2 : pbV d with
    | false =>
      have HV2 := Lib.hid hv2
      have HF : Hid (addP c d = (zeroC, 2)) := Lib.hid (by unfold addP; rw [hv, hv2]; rfl)
      clear hv hv2
      go_wp2_with (first | (go_at_call 30; (with_reducible refine (pbValid_any _ c _ HS.out.is).mono ?_); rintro e w5 ⟨ev, hb5⟩; rw [HV.out] at ev; subst ev; have HS5 := Lib.hid (HS.out.on hb5); have HBX5 := HS5.out.box.cell; have HKX5 := HS5.out.box2.cell; have HRX5 := HS5.out.res.cell; have HRF5 := HS5.out.res.free; clear hb5) | (go_at_call 30; (with_reducible refine (pbValid_any _ d _ HS5.out.is2).mono ?_); rintro e w6 ⟨ev, hb6⟩; rw [HV2.out] at ev; subst ev; have HS6 := Lib.hid (HS5.out.on hb6); have HBX6 := HS6.out.box.cell; have HKX6 := HS6.out.box2.cell; have HRX6 := HS6.out.res.cell; have HRF6 := HS6.out.res.free; clear hb6))
      refine bodyPost_ret (v := .tuple #[.agg #[.slice none 0 0, .slice none 0 0, .int .i64 0], .int .i64 2]) (by have kz := ((HS6.out.res.set 0 (.slice none 0 0)).set 1 (.slice none 0 0)).set 2 (.int .i64 0); have kz2 := kz.cell; simp only [List.set_cons_zero, List.set_cons_succ] at kz2; simp [results, Tryz.f207, go_sem, kz2]) rfl ?_
      rw [HF.out]
      exact CuOut.err HS6.out.below (by omega)
    | true =>
      have HV2 := Lib.hid hv2
      have hp := pbV_parts hv
      have hp2 := pbV_parts hv2
      obtain ⟨L, hLL⟩ : ∃ L, L = c.lits ++ d.lits := ⟨_, rfl⟩
      obtain ⟨M, hMM⟩ : ∃ M, M = c.coefs ++ d.coefs := ⟨_, rfl⟩
      obtain ⟨N, hN⟩ : ∃ N, normP L M (c.bound + d.bound) = N := ⟨_, rfl⟩
      have HF : Hid (addP c d = N) := Lib.hid (by unfold addP; rw [hv, hv2, ← hN, hLL, hMM]; rfl)
      have HLL := Lib.hid hLL
      have HMM := Lib.hid hMM
      have HLN : Hid (L.length ≤ 200000 ∧ M.length ≤ 200000) := Lib.hid (by rw [hLL, hMM, List.length_append, List.length_append]; omega)
      have HN := Lib.hid hN
      have HLE : Hid (c.lits.length + d.lits.length ≤ 200000 ∧ c.coefs.length + d.coefs.length ≤ 200000 ∧ InI (c.bound + d.bound)) := Lib.hid (by unfold InI; omega)
      have hbs : 0 ≤ c.bound + d.bound ∧ c.bound + d.bound ≤ 1099511627776 := by omega
      clear hv hv2 hp hp2 hN hLL hMM
      go_upto_region 3 with (first | (go_at_call 30; (with_reducible refine (pbValid_any _ c _ HS.out.is).mono ?_); rintro e w5 ⟨ev, hb5⟩; rw [HV.out] at ev; subst ev; have HS5 := Lib.hid (HS.out.on hb5); have HBX5 := HS5.out.box.cell; have HKX5 := HS5.out.box2.cell; have HRX5 := HS5.out.res.cell; have HRF5 := HS5.out.res.free; clear hb5) | (go_at_call 30; (with_reducible refine (pbValid_any _ d _ HS5.out.is2).mono ?_); rintro e w6 ⟨ev, hb6⟩; rw [HV2.out] at ev; subst ev; have HS6 := Lib.hid (HS5.out.on hb6); have HBX6 := HS6.out.box.cell; have HKX6 := HS6.out.box2.cell; have HRX6 := HS6.out.res.cell; have HRF6 := HS6.out.res.free; clear hb6))
      clear HBX6 HKX6 HRX6 HRF6 HBX5 HKX5 HRX5 HRF5 kb0 kb1
      have ex1 : ∀ e : Ext w6, ∀ o, e.world.cell? ⟨w.heap.size, o, none⟩ = _ := fun e o => (bcell e.below _ o HS6.out.box.lt).trans (HS6.out.box.cell o)
      have ex2 : ∀ e : Ext w6, ∀ o, e.world.cell? ⟨w.heap.size + 1, o, none⟩ = _ := fun e o => (bcell e.below _ o HS6.out.box2.lt).trans (HS6.out.box2.cell o)
      refine wp_region_tail' 20 (fun _ => True) (adΦ w6.heap.size 4 5 10 11 17 (.slice a1 c.lits.length c1) (.slice a3 d.lits.length c3) (.slice a2 c.coefs.length c2) (.slice a4 d.coefs.length c4) L M N) (fun i => i == 4 || i == 5 || i == 10 || i == 11 || i == 17) (by kernel_rfl) (by kernel_rfl) (by kernel_rfl) (fun _ _ => trivial) (adΦ_later _ _ _ _ _ _ _ _ _ _ _ _ _) ?_
      simp only [List.take_succ_cons, List.take_zero, List.drop_succ_cons, List.drop_zero]
      iterate 4 (refine walkP_head (by kernel_rfl) rfl rfl rfl (fun K hK => ?_); go_big_quiet_op; refine hK _ ?_; clear hK K)
      refine walkP_mem rfl rfl (fun wa hba hFa => ?_) (fun v4 lo4 hi4 l4 g4 h4 => ?_)
      · go_simp
        exact ⟨bal (Below.refl _ _) _, .inl ⟨rfl, rfl, by simp, Blk.new _ _ _⟩⟩
      obtain rfl : v4 = .slice (some ⟨lo4, 0, none⟩) 2 2 := by obtain ⟨_, h⟩ := h4; exact (h.one (by decide) (by decide) (by decide) (by decide)).1
      simp only [Act.put, List.setIfInBounds_toArray, List.set_cons_succ, List.set_cons_zero]
      refine walkP_mem rfl rfl (fun wa hba hFa => ?_) (fun v5 lo5 hi5 l5 g5 h5 => ?_)
      · have hf0 := hFa _ (.head _) (by kernel_rfl)
        dsimp only at hf0
        have hf := hf0.one (by decide) (by decide) (by decide) (by decide)
        clear hf0
        go_simp
        exact (concat_sc hf.2.2 (HI.out.1.1.below (bon HS6.out.below hba)) (HI.out.1.2.below (bon HS6.out.below hba)) HLE.out.1 hba.size).mono fun e w2 ⟨v, h1, h2, h3, h4⟩ => ⟨_, h1, h2, .inr (.inl ⟨rfl, by rw [HLL.out]; exact h3, by rw [HLL.out]; exact h4⟩)⟩
      obtain ⟨a5, c5, rfl⟩ : ∃ a c', v5 = .slice a L.length c' := by obtain ⟨_, h⟩ := h5; exact (h.two (by decide) (by decide) (by decide) (by decide)).1
      simp only [Act.put, List.setIfInBounds_toArray, List.set_cons_succ, List.set_cons_zero]
      iterate 4 (refine walkP_head (by kernel_rfl) rfl rfl rfl (fun K hK => ?_); go_big_quiet_op; refine hK _ ?_; clear hK K)
      refine walkP_mem rfl rfl (fun wa hba hFa => ?_) (fun v10 lo10 hi10 l10 g10 h10 => ?_)
      · go_simp
        exact ⟨bal (Below.refl _ _) _, .inr (.inr (.inl ⟨rfl, rfl, by simp, Blk.new _ _ _⟩))⟩
      obtain rfl : v10 = .slice (some ⟨lo10, 0, none⟩) 2 2 := by obtain ⟨_, h⟩ := h10; exact (h.three (by decide) (by decide) (by decide) (by decide)).1
      simp only [Act.put, List.setIfInBounds_toArray, List.set_cons_succ, List.set_cons_zero]
      refine walkP_mem rfl rfl (fun wa hba hFa => ?_) (fun v11 lo11 hi11 l11 g11 h11 => ?_)
      · have hf0 := hFa _ (.head _) (by kernel_rfl)
        dsimp only at hf0
        have hf := hf0.three (by decide) (by decide) (by decide) (by decide)
        clear hf0
        go_simp
        exact (concat_sc hf.2.2 (HI.out.2.1.below (bon HS6.out.below hba)) (HI.out.2.2.below (bon HS6.out.below hba)) HLE.out.2.1 hba.size).mono fun e w2 ⟨v, h1, h2, h3, h4⟩ => ⟨_, h1, h2, .inr (.inr (.inr (.inl ⟨rfl, by rw [HMM.out]; exact h3, by rw [HMM.out]; exact h4⟩)))⟩
      obtain ⟨a11, c11, rfl⟩ : ∃ a c', v11 = .slice a M.length c' := by obtain ⟨_, h⟩ := h11; exact (h.four (by decide) (by decide) (by decide) (by decide)).1
      clear h4 h5 h10 h11
      simp only [Act.put, List.setIfInBounds_toArray, List.set_cons_succ, List.set_cons_zero]
      iterate 5 (refine walkP_head (by kernel_rfl) rfl rfl rfl (fun K hK => ?_); go_big_quiet_op; refine hK _ ?_; clear hK K)
      refine walkP_mem rfl rfl (fun wa hba hFa => ?_) (fun v17 lo17 hi17 l17 g17 h17 => ?_)
      · have hf0 := hFa _ (.head _) (by kernel_rfl)
        have hf1 := hFa _ (.tail _ (.tail _ (.head _))) (by kernel_rfl)
        dsimp only at hf0 hf1
        have hf2 := (hf0.four (by decide) (by decide) (by decide) (by decide)).2
        have hf3 := (hf1.two (by decide) (by decide) (by decide) (by decide)).2
        clear hf0 hf1
        go_simp
        exact (nmR.of HN.out (hf3.ints (by have := HLN.out.1; omega)) (hf2.ints (by have := HLN.out.2; omega)) HLE.out.2.2 hba.size).mono fun e w2 ⟨v, h1, h2, h3⟩ => ⟨_, h1, h2, .inr (.inr (.inr (.inr ⟨rfl, h3⟩)))⟩
      obtain ⟨al, cl, ak, ck, rfl⟩ : ∃ al cl ak ck, v17 = .tuple #[.agg #[.slice al N.1.lits.length cl, .slice ak N.1.coefs.length ck, .int .i64 N.1.bound], .int .i64 N.2] := by
        obtain ⟨_, h⟩ := h17
        obtain ⟨al, cl, ak, ck, e, -⟩ := h.five (by decide) (by decide) (by decide) (by decide)
        exact ⟨al, cl, ak, ck, e⟩
      simp only [Act.put, List.setIfInBounds_toArray, List.set_cons_succ, List.set_cons_zero]
      iterate 2 (refine walkP_head (by kernel_rfl) rfl rfl rfl (fun K hK => ?_); go_big_quiet_op; refine hK _ ?_; clear hK K)
      intro wx hbx hF hI hP
      obtain ⟨f1, f2, f3, f4, f5⟩ : QRow w6.heap.size wx (.slice al N.1.lits.length cl) N.1.lits ∧ QRow w6.heap.size wx (.slice ak N.1.coefs.length ck) N.1.coefs ∧ InI N.1.bound ∧ N.1.lits.length ≤ 65536 ∧ N.1.coefs.length ≤ 65536 := by
        have hf0 := hF _ (.head _)
        dsimp only at hf0
        obtain ⟨_, _, _, _, e, h⟩ := hf0.five (by decide) (by decide) (by decide) (by decide)
        simp only [Value.tuple.injEq, Array.mk.injEq, List.cons.injEq, Value.agg.injEq, Value.slice.injEq, and_true, true_and] at e
        obtain ⟨⟨rfl, rfl⟩, rfl, rfl⟩ := e
        exact h
      have HSX := Lib.hid (HS6.out.on hbx)
      have kf := HSX.out.res.free
      have kc := HSX.out.res.cell
      have HQ1 := Lib.hid f1
      have HQ2 := Lib.hid f2
      have HQ3 := Lib.hid (And.intro f3 (And.intro f4 f5))
      clear hF hI hP hbx f1 f2 f3 f4 f5 ex1 ex2 h17
      iterate 2 (refine ⟨rfl, rfl, ?_⟩; go_simp)
      simp only [tailW]
      clear kf kc
      have kz := ((HSX.out.res.set 0 (.slice al N.1.lits.length cl)).set 1 (.slice ak N.1.coefs.length ck)).set 2 (.int .i64 N.1.bound)
      have kz2 := kz.cell
      simp only [List.set_cons_zero, List.set_cons_succ] at kz2
      go_wp2_with fail
      refine bodyPost_ret (v := .tuple #[.agg #[.slice al N.1.lits.length cl, .slice ak N.1.coefs.length ck, .int .i64 N.1.bound], .int .i64 N.2]) (by simp [results, Tryz.f207, go_sem, kz2]) rfl ?_
      rw [HF.out]
      exact CuOut.ok HSX.out.below (by omega) HS6.out.res.lt HQ1.out HQ2.out HQ3.out.1 HQ3.out.2.1 HQ3.out.2.2
end Go.Proofs.YteblddnoegbalaaGreat
namespace Go.Proofs.YteblddnoegbalaaGreat
theorem weak_split36 {A B : List (Int × Int)} {x : Int × Int} {v : Int} (hp : (A ++ x :: B).Pairwise (fun x y => x.1.natAbs < y.1.natAbs)) (h1 : isV v x = true) : (A ++ x :: B).filter (fun y => !isV v y) = A ++ B ∧ (A ++ x :: B).filter (isV v) = [x] := by
  rw [List.pairwise_append, List.pairwise_cons] at hp
  obtain ⟨-, ⟨hB, -⟩, hA⟩ := hp
  have hx : (x.1.natAbs : Int) = v := by unfold isV at h1; exact of_decide_eq_true h1
  have hA' : ∀ y ∈ A, isV v y = false := fun y hy => by
    have := hA y hy x (.head _)
    unfold isV
    exact decide_eq_false (by omega)
  have hB' : ∀ y ∈ B, isV v y = false := fun y hy => by
    have := hB y hy
    unfold isV
    exact decide_eq_false (by omega)
  constructor
  · rw [List.filter_append, List.filter_cons_of_neg (by simp [h1]), List.filter_eq_self.2 fun y hy => by simp [hA' y hy], List.filter_eq_self.2 fun y hy => by simp [hB' y hy]]
  · rw [List.filter_append, List.filter_cons_of_pos h1, List.filter_eq_nil_iff.2 fun y hy => by simp [hA' y hy], List.filter_eq_nil_iff.2 fun y hy => by simp [hB' y hy]]
    rfl
theorem zip_at36 {L K : List Int} {i : Nat} (hl : L.length = K.length) (hi : i < L.length) : L.zip K = (L.take i).zip (K.take i) ++ (ix L i, ix K i) :: (L.drop (i + 1)).zip (K.drop (i + 1)) := by
  have e1 : L = L.take i ++ ix L i :: L.drop (i + 1) := by
    have : ix L i = L[i] := by simp [ix, List.getD_eq_getElem?_getD, List.getElem?_eq_getElem hi]
    rw [this, ← List.drop_eq_getElem_cons hi, List.take_append_drop]
  have e2 : K = K.take i ++ ix K i :: K.drop (i + 1) := by
    have : ix K i = K[i] := by simp [ix, List.getD_eq_getElem?_getD, List.getElem?_eq_getElem (show i < K.length by omega)]
    rw [this, ← List.drop_eq_getElem_cons (show i < K.length by omega), List.take_append_drop]
  have := List.zip_append (l₁ := L.take i) (l₂ := K.take i) (r₁ := ix L i :: L.drop (i + 1)) (r₂ := ix K i :: K.drop (i + 1)) (by simp; omega)
  rw [← e1, ← e2] at this
  rw [this, List.zip_cons_cons]
theorem weakP_at {c : PBC} {v : Int} {i : Nat} (hv : pbV c = true) (hk : 1 ≤ v ∧ v ≤ 65536) (hi : i < c.lits.length) (h : ((ix c.lits i).natAbs : Int) = v) :
    weakP c v = normP (c.lits.take i ++ c.lits.drop (i + 1)) (c.coefs.take i ++ c.coefs.drop (i + 1)) (c.bound - ix c.coefs i) := by
  have hp := pbV_parts hv
  have h2 := (okF_pair hp.2.2.2.1).2
  have hz := zip_at36 hp.1 hi
  rw [hz] at h2
  obtain ⟨h3, h4⟩ := weak_split36 (v := v) h2 (by unfold isV; exact decide_eq_true h)
  unfold weakP
  rw [if_neg (by rw [hv]; intro hh; rcases hh with hh | hh | hh <;> first | omega | cases hh), hz, h3, h4, List.map_append, List.map_append]
  rw [List.map_fst_zip (by simp; omega), List.map_fst_zip (by simp; omega), List.map_snd_zip (by simp; omega), List.map_snd_zip (by simp; omega)]
  have : sumP [(ix c.lits i, ix c.coefs i)] = ix c.coefs i := by simp [sumP]
  rw [this]
theorem weakP_none {c : PBC} {v : Int} (hv : pbV c = true) (hk : 1 ≤ v ∧ v ≤ 65536) (h : ∀ j, j < c.lits.length → ((ix c.lits j).natAbs : Int) ≠ v) : weakP c v = normP c.lits c.coefs c.bound := by
  have hp := pbV_parts hv
  have hn : ∀ x ∈ c.lits.zip c.coefs, isV v x = false := fun x hx => by
    obtain ⟨j, hj, e⟩ := List.mem_iff_getElem.1 hx
    rw [List.length_zip] at hj
    rw [List.getElem_zip] at e
    have h1 := h j (by omega)
    have : ix c.lits j = x.1 := by rw [← e]; simp [ix, List.getD_eq_getElem?_getD, List.getElem?_eq_getElem (show j < c.lits.length by omega)]
    rw [this] at h1
    unfold isV
    exact decide_eq_false h1
  unfold weakP
  rw [if_neg (by rw [hv]; intro hh; rcases hh with hh | hh | hh <;> first | omega | cases hh), List.filter_eq_self.2 fun y hy => by simp [hn y hy], List.filter_eq_nil_iff.2 fun y hy => by simp [hn y hy], List.map_fst_zip (by omega), List.map_snd_zip (by omega)]
  simp [sumP]
end Go.Proofs.YteblddnoegbalaaGreat
namespace Go.Proofs.YteblddnoegbalaaGreat
open Go.RowKit
attribute [local go_sem] memUpon
theorem ix_take36 {l : List Int} {i j : Nat} (h : j < i) : ix (l.take i) j = ix l j := by unfold ix; rw [List.getD_eq_getElem?_getD, List.getD_eq_getElem?_getD, List.getElem?_take_of_lt h]
theorem ix_drop36 {l : List Int} {i j : Nat} : ix (l.drop i) j = ix l (i + j) := by unfold ix; rw [List.getD_eq_getElem?_getD, List.getD_eq_getElem?_getD, List.getElem?_drop]
theorem Ints.head36 {w : World} {b o i cap : Nat} {l : List Int} (h : Ints w (.slice (some ⟨b, o, none⟩) l.length cap) l) (hi : i ≤ l.length) : Ints w (.slice (some ⟨b, o, none⟩) i cap) (l.take i) := by
  obtain ⟨⟨a, cap', e, h1, hm, h2, h3⟩, h4⟩ := h
  simp only [Value.slice.injEq, true_and] at e
  obtain ⟨rfl, rfl⟩ := e
  have hl : (l.take i).length = i := by rw [List.length_take]; omega
  refine ⟨⟨some ⟨b, o, none⟩, cap, by rw [hl], by omega, hm, by omega, fun h0 => ?_⟩, fitI fun x hx => ?_⟩
  · obtain ⟨b', o', e, hb, hc⟩ := h3 (by omega)
    refine ⟨b', o', e, hb, fun j hj => ?_⟩
    show w.cell? _ = some (.int .i64 (ix (l.take i) j))
    rw [ix_take36 (by omega)]
    exact hc j (by omega)
  · obtain ⟨j, hj, rfl⟩ := List.mem_iff_getElem.1 (List.mem_of_mem_take hx)
    have e : ix l j = l[j] := by simp [ix, List.getD_eq_getElem?_getD, List.getElem?_eq_getElem hj]
    rw [← e]
    exact h4 j
theorem Ints.tail36 {w : World} {b o j cap : Nat} {l : List Int} (h : Ints w (.slice (some ⟨b, o, none⟩) l.length cap) l) (hj : j ≤ l.length) : Ints w (.slice (if cap = j then some ⟨b, o, none⟩ else some ⟨b, o + j, none⟩) (l.length - j) (cap - j)) (l.drop j) := by
  obtain ⟨⟨a, cap', e, h1, hm, h2, h3⟩, h4⟩ := h
  simp only [Value.slice.injEq, true_and] at e
  obtain ⟨rfl, rfl⟩ := e
  have hl : (l.drop j).length = l.length - j := List.length_drop
  refine ⟨⟨_, _, by rw [hl], by omega, by omega, by omega, fun h0 => ?_⟩, fun i => by rw [ix_drop36]; exact h4 _⟩
  obtain ⟨b', o', e, hb, hc⟩ := h3 (by omega)
  simp only [Option.some.injEq, Addr.mk.injEq, and_true] at e
  obtain ⟨rfl, rfl⟩ := e
  rw [if_neg (by omega)]
  refine ⟨b, o + j, rfl, hb, fun i hi => ?_⟩
  show w.cell? _ = some (.int .i64 (ix (l.drop j) i))
  rw [ix_drop36, Nat.add_assoc]
  exact hc (j + i) (by omega)
set_option maxHeartbeats 8000000 in
set_option maxRecDepth 100000 in
theorem cweak_any (v : Value) (c : PBC) (k : Int) (w : World) (h : PBIs w v c) (hk : InI k) : Calls Tryz.prog 214 #[v, .int .i64 k] w (CuOut w (weakP c k)) := by
  have h0 := h
  obtain ⟨vl, vk, rfl, hL, hK, hbd⟩ := h
  obtain ⟨a1, c1, rfl, -⟩ := id hL.form
  obtain ⟨a2, c2, rfl, -⟩ := id hK.form
  have HS := Lib.hid (CuSt.new (k := k) h0)
  have HL := Lib.hid hL
  have HK := Lib.hid hK
  have hi := hk
  unfold InI at hi hbd
  clear hL hK h0
  go_enter Tryz.func214, Tryz.ntmps214
  go_upto_region 1 with fail
  generalize ((w.alloc (.cells #[.slice a1 c.lits.length c1, .slice a2 c.coefs.length c2, .int .i64 c.bound] 25)).alloc (.cells #[.int .i64 k] 3)).alloc (.cells #[.slice none 0 0, .slice none 0 0, .int .i64 0] 25) = W0 at *
  have kb0 := HS.out.box.cell
  by_cases hbad : pbV c = false ∨ k < 1 ∨ 65536 < k
  · have HF : Hid (weakP c k = (zeroC, 2)) := Lib.hid (by unfold weakP; rw [if_pos hbad])
    cases hv : pbV c with
    | false =>
      have HV := Lib.hid hv
      clear hv hbad
      go_wp2_with (go_at_call 30; (with_reducible refine (pbValid_any _ c _ HS.out.is).mono ?_); rintro e w5 ⟨ev, hb5⟩; rw [HV.out] at ev; subst ev; have HS5 := Lib.hid (HS.out.on hb5); have HBX5 := HS5.out.box.cell; have HKX5 := HS5.out.kbx.cell; have HRX5 := HS5.out.res.cell; have HRF5 := HS5.out.res.free; clear hb5)
      refine bodyPost_ret (v := .tuple #[.agg #[.slice none 0 0, .slice none 0 0, .int .i64 0], .int .i64 2]) (by have kz := ((HS5.out.res.set 0 (.slice none 0 0)).set 1 (.slice none 0 0)).set 2 (.int .i64 0); have kz2 := kz.cell; simp only [List.set_cons_zero, List.set_cons_succ] at kz2; simp [results, Tryz.f214, go_sem, kz2]) rfl ?_
      rw [HF.out]
      exact CuOut.err HS5.out.below (by omega)
    | true =>
      have HV := Lib.hid hv
      by_cases hk1 : k < 1
      · clear hv hbad
        go_wp2_with (go_at_call 30; (with_reducible refine (pbValid_any _ c _ HS.out.is).mono ?_); rintro e w5 ⟨ev, hb5⟩; rw [HV.out] at ev; subst ev; have HS5 := Lib.hid (HS.out.on hb5); have HBX5 := HS5.out.box.cell; have HKX5 := HS5.out.kbx.cell; have HRX5 := HS5.out.res.cell; have HRF5 := HS5.out.res.free; clear hb5)
        refine bodyPost_ret (v := .tuple #[.agg #[.slice none 0 0, .slice none 0 0, .int .i64 0], .int .i64 2]) (by have kz := ((HS5.out.res.set 0 (.slice none 0 0)).set 1 (.slice none 0 0)).set 2 (.int .i64 0); have kz2 := kz.cell; simp only [List.set_cons_zero, List.set_cons_succ] at kz2; simp [results, Tryz.f214, go_sem, kz2]) rfl ?_
        rw [HF.out]
        exact CuOut.err HS5.out.below (by omega)
      · have hk2 : 65536 < k := by rcases hbad with h | h | h <;> first | omega | (rw [hv] at h; cases h)
        clear hv hbad
        go_wp2_with (go_at_call 30; (with_reducible refine (pbValid_any _ c _ HS.out.is).mono ?_); rintro e w5 ⟨ev, hb5⟩; rw [HV.out] at ev; subst ev; have HS5 := Lib.hid (HS.out.on hb5); have HBX5 := HS5.out.box.cell; have HKX5 := HS5.out.kbx.cell; have HRX5 := HS5.out.res.cell; have HRF5 := HS5.out.res.free; clear hb5)
        refine bodyPost_ret (v := .tuple #[.agg #[.slice none 0 0, .slice none 0 0, .int .i64 0], .int .i64 2]) (by have kz := ((HS5.out.res.set 0 (.slice none 0 0)).set 1 (.slice none 0 0)).set 2 (.int .i64 0); have kz2 := kz.cell; simp only [List.set_cons_zero, List.set_cons_succ] at kz2; simp [results, Tryz.f214, go_sem, kz2]) rfl ?_
        rw [HF.out]
        exact CuOut.err HS5.out.below (by omega)
  · have hv : pbV c = true := by cases e : pbV c with | true => rfl | false => exact absurd (.inl e) hbad
    have hkr : 1 ≤ k ∧ k ≤ 65536 := by omega
    have hp := pbV_parts hv
    have HP := Lib.hid hp
    have HV := Lib.hid hv
    have HKR := Lib.hid hkr
    clear hbad hv hp
    go_upto_region 4 with (first | (go_at_call 30; (with_reducible refine (pbValid_any _ c _ HS.out.is).mono ?_); rintro e w5 ⟨ev, hb5⟩; rw [HV.out] at ev; subst ev; have HS5 := Lib.hid (HS.out.on hb5); have HBX5 := HS5.out.box.cell; have HKX5 := HS5.out.kbx.cell; have HRX5 := HS5.out.res.cell; have HRF5 := HS5.out.res.free; clear hb5) | (go_at_call 150; (with_reducible refine (idx_cwk _ c.lits _ (HL.out.below HS5.out.below) (fun j => decide (((ix c.lits j).natAbs : Int) = k)) (.pointer (some ⟨w.heap.size + 1, 0, none⟩)) (fun w' hb j hj => cwk1_any (ix c.lits j) k (w.heap.size + 1) w' (HS5.out.kbx.below hb) HKR.out)).mono ?_); rintro e w6 ⟨r, rfl, hr, hb6⟩; have HR := Lib.hid hr; have HS6 := Lib.hid (HS5.out.on hb6); have HBX6 := HS6.out.box.cell; have HKX6 := HS6.out.kbx.cell; have HRX6 := HS6.out.res.cell; have HRF6 := HS6.out.res.free; clear hr hb6))
    rcases HR.out with ⟨rfl, hall⟩ | ⟨i, hil, rfl, hix, -⟩
    · obtain ⟨N, hN⟩ : ∃ N, normP c.lits c.coefs c.bound = N := ⟨_, rfl⟩
      have HF : Hid (weakP c k = N) := Lib.hid (by rw [weakP_none HV.out hkr fun j hj => of_decide_eq_false (hall j hj), hN])
      have HN := Lib.hid hN
      clear hN hall
      go_wp2_with (go_at_call 44; (with_reducible refine (nmR.of HN.out (HL.out.below HS6.out.below) (HK.out.below HS6.out.below) (by unfold InI; omega) (Nat.le_refl _)).mono ?_); rintro e w7 ⟨vv, rfl, hb7, al, cl, ak, ck, rfl, hq1, hq2, hq3, hq4, hq5⟩; have HQ1 := Lib.hid hq1; have HQ2 := Lib.hid hq2; have HQ3 := Lib.hid hq3; have HQ4 := Lib.hid hq4; have HQ5 := Lib.hid hq5; have HS7 := Lib.hid (HS6.out.on hb7); have HRX7 := HS7.out.res.cell; have HRF7 := HS7.out.res.free; clear hq1 hq2 hq3 hq4 hq5 hb7)
      have kz := ((HS7.out.res.set 0 (.slice al N.1.lits.length cl)).set 1 (.slice ak N.1.coefs.length ck)).set 2 (.int .i64 N.1.bound)
      have kz2 := kz.cell
      simp only [List.set_cons_zero, List.set_cons_succ] at kz2
      refine bodyPost_ret (v := .tuple #[.agg #[.slice al N.1.lits.length cl, .slice ak N.1.coefs.length ck, .int .i64 N.1.bound], .int .i64 N.2]) (by simp [results, Tryz.f214, go_sem, kz2]) rfl ?_
      rw [HF.out]
      exact CuOut.ok HS7.out.below (by omega) HS6.out.res.lt HQ1.out HQ2.out HQ3.out HQ4.out HQ5.out
    · go_upto_region 6 with fail
      have hil2 : i < c.coefs.length := by have := HP.out.1; omega
      obtain ⟨_, _, e1, hA1, hB1, hC1, hcell1⟩ := HL.out.form
      simp only [Value.slice.injEq, true_and] at e1
      obtain ⟨rfl, rfl⟩ := e1
      obtain ⟨b1, o1, rfl, hb1, hc1⟩ := hcell1 (by omega)
      obtain ⟨_, _, e2, hA2, hB2, hC2, hcell2⟩ := HK.out.form
      simp only [Value.slice.injEq, true_and] at e2
      obtain ⟨rfl, rfl⟩ := e2
      obtain ⟨b2, o2, rfl, hb2, hc2⟩ := hcell2 (by omega)
      have HI1 := Lib.hid ((hC1.head36 (i := i) (by omega)).below HS6.out.below)
      have HI2 := Lib.hid ((hC1.tail36 (j := i + 1) (by omega)).below HS6.out.below)
      have HI3 := Lib.hid ((hC2.head36 (i := i) (by omega)).below HS6.out.below)
      have HI4 := Lib.hid ((hC2.tail36 (j := i + 1) (by omega)).below HS6.out.below)
      obtain ⟨L, hLL⟩ : ∃ L, L = c.lits.take i ++ c.lits.drop (i + 1) := ⟨_, rfl⟩
      obtain ⟨M, hMM⟩ : ∃ M, M = c.coefs.take i ++ c.coefs.drop (i + 1) := ⟨_, rfl⟩
      obtain ⟨N, hN⟩ : ∃ N, normP L M (c.bound - ix c.coefs i) = N := ⟨_, rfl⟩
      have HF : Hid (weakP c k = N) := Lib.hid (by rw [weakP_at HV.out hkr hil (of_decide_eq_true hix), ← hN, hLL, hMM])
      have HLL := Lib.hid hLL
      have HMM := Lib.hid hMM
      have HLN : Hid (L.length ≤ 200000 ∧ M.length ≤ 200000) := Lib.hid (by have := HP.out; rw [hLL, hMM, List.length_append, List.length_append, List.length_take, List.length_take, List.length_drop, List.length_drop]; omega)
      have HN := Lib.hid hN
      have hcr := coef_range36 HV.out (.inl (ix_mem hil2))
      have hbr := coef_range36 HV.out (.inr rfl)
      have HLE : Hid ((c.lits.take i).length + (c.lits.drop (i + 1)).length ≤ 200000 ∧ (c.coefs.take i).length + (c.coefs.drop (i + 1)).length ≤ 200000 ∧ InI (c.bound - ix c.coefs i)) := Lib.hid ⟨by have := HP.out; rw [List.length_take, List.length_drop]; omega, by have := HP.out; rw [List.length_take, List.length_drop]; omega, by unfold InI; omega⟩
      clear HBX6 HKX6 HRX6 HRF6 HBX5 HKX5 HRX5 HRF5 kb0 hLL hMM hN hC1 hC2 hcell1 hcell2 hc1 hix HR
      have ex1 : ∀ e : Ext w6, ∀ o, e.world.cell? ⟨w.heap.size, o, none⟩ = _ := fun e o => (bcell e.below _ o HS6.out.box.lt).trans (HS6.out.box.cell o)
      have ex2 : ∀ e : Ext w6, e.world.cell? ⟨b2, o2 + i, none⟩ = some (.int .i64 (ix c.coefs i)) := fun e => (bcell (bon HS6.out.below e.below) _ _ hb2).trans (hc2 i hil2)
      clear hc2
      refine wp_region_tail' 33 (fun _ => True) (adΦ w6.heap.size 9 10 20 21 30 (.slice (some ⟨b1, o1, none⟩) i c1) (.slice (if c1 = i + 1 then some ⟨b1, o1, none⟩ else some ⟨b1, o1 + (i + 1), none⟩) (c.lits.length - (i + 1)) (c1 - (i + 1))) (.slice (some ⟨b2, o2, none⟩) i c2) (.slice (if c2 = i + 1 then some ⟨b2, o2, none⟩ else some ⟨b2, o2 + (i + 1), none⟩) (c.coefs.length - (i + 1)) (c2 - (i + 1))) L M N) (fun i => i == 9 || i == 10 || i == 20 || i == 21 || i == 30) (by kernel_rfl) (by kernel_rfl) (by kernel_rfl) (fun _ _ => trivial) (adΦ_later _ _ _ _ _ _ _ _ _ _ _ _ _) ?_
      simp only [List.take_succ_cons, List.take_zero, List.drop_succ_cons, List.drop_zero]
      iterate 9 (refine walkP_head (by kernel_rfl) rfl rfl rfl (fun K hK => ?_); go_big_quiet_op; refine hK _ ?_; clear hK K)
      refine walkP_mem rfl rfl (fun wa hba hFa => ?_) (fun v4 lo4 hi4 l4 g4 h4 => ?_)
      · go_simp
        exact ⟨bal (Below.refl _ _) _, .inl ⟨rfl, rfl, by simp, Blk.new _ _ _⟩⟩
      obtain rfl : v4 = .slice (some ⟨lo4, 0, none⟩) 2 2 := by obtain ⟨_, h⟩ := h4; exact (h.one (by decide) (by decide) (by decide) (by decide)).1
      simp only [Act.put, List.setIfInBounds_toArray, List.set_cons_succ, List.set_cons_zero]
      refine walkP_mem rfl rfl (fun wa hba hFa => ?_) (fun v5 lo5 hi5 l5 g5 h5 => ?_)
      · have hf0 := hFa _ (.head _) (by kernel_rfl)
        dsimp only at hf0
        have hf := hf0.one (by decide) (by decide) (by decide) (by decide)
        clear hf0
        go_simp
        exact (concat_sc hf.2.2 (HI1.out.below hba) (HI2.out.below hba) HLE.out.1 hba.size).mono fun e w2 ⟨v, h1, h2, h3, h4⟩ => ⟨_, h1, h2, .inr (.inl ⟨rfl, by rw [HLL.out]; exact h3, by rw [HLL.out]; exact h4⟩)⟩
      obtain ⟨a5, c5, rfl⟩ : ∃ a c', v5 = .slice a L.length c' := by obtain ⟨_, h⟩ := h5; exact (h.two (by decide) (by decide) (by decide) (by decide)).1
      clear h4 h5
      simp only [Act.put, List.setIfInBounds_toArray, List.set_cons_succ, List.set_cons_zero]
      iterate 9 (refine walkP_head (by kernel_rfl) rfl rfl rfl (fun K hK => ?_); go_big_quiet_op; refine hK _ ?_; clear hK K)
      refine walkP_mem rfl rfl (fun wa hba hFa => ?_) (fun v10 lo10 hi10 l10 g10 h10 => ?_)
      · go_simp
        exact ⟨bal (Below.refl _ _) _, .inr (.inr (.inl ⟨rfl, rfl, by simp, Blk.new _ _ _⟩))⟩
      obtain rfl : v10 = .slice (some ⟨lo10, 0, none⟩) 2 2 := by obtain ⟨_, h⟩ := h10; exact (h.three (by decide) (by decide) (by decide) (by decide)).1
      simp only [Act.put, List.setIfInBounds_toArray, List.set_cons_succ, List.set_cons_zero]
      refine walkP_mem rfl rfl (fun wa hba hFa => ?_) (fun v11 lo11 hi11 l11 g11 h11 => ?_)
      · have hf0 := hFa _ (.head _) (by kernel_rfl)
        dsimp only at hf0
        have hf := hf0.three (by decide) (by decide) (by decide) (by decide)
        clear hf0
        go_simp
        exact (concat_sc hf.2.2 (HI3.out.below hba) (HI4.out.below hba) HLE.out.2.1 hba.size).mono fun e w2 ⟨v, h1, h2, h3, h4⟩ => ⟨_, h1, h2, .inr (.inr (.inr (.inl ⟨rfl, by rw [HMM.out]; exact h3, by rw [HMM.out]; exact h4⟩)))⟩
      obtain ⟨a11, c11, rfl⟩ : ∃ a c', v11 = .slice a M.length c' := by obtain ⟨_, h⟩ := h11; exact (h.four (by decide) (by decide) (by decide) (by decide)).1
      clear h10 h11
      simp only [Act.put, List.setIfInBounds_toArray, List.set_cons_succ, List.set_cons_zero]
      iterate 8 (refine walkP_head (by kernel_rfl) rfl rfl rfl (fun K hK => ?_); go_big_quiet_op; refine hK _ ?_; clear hK K)
      refine walkP_mem rfl rfl (fun wa hba hFa => ?_) (fun v17 lo17 hi17 l17 g17 h17 => ?_)
      · have hf0 := hFa _ (.head _) (by kernel_rfl)
        have hf1 := hFa _ (.tail _ (.tail _ (.head _))) (by kernel_rfl)
        dsimp only at hf0 hf1
        have hf2 := (hf0.four (by decide) (by decide) (by decide) (by decide)).2
        have hf3 := (hf1.two (by decide) (by decide) (by decide) (by decide)).2
        clear hf0 hf1
        go_simp
        exact (nmR.of HN.out (hf3.ints (by have := HLN.out.1; omega)) (hf2.ints (by have := HLN.out.2; omega)) HLE.out.2.2 hba.size).mono fun e w2 ⟨v, h1, h2, h3⟩ => ⟨_, h1, h2, .inr (.inr (.inr (.inr ⟨rfl, h3⟩)))⟩
      obtain ⟨al, cl, ak, ck, rfl⟩ : ∃ al cl ak ck, v17 = .tuple #[.agg #[.slice al N.1.lits.length cl, .slice ak N.1.coefs.length ck, .int .i64 N.1.bound], .int .i64 N.2] := by
        obtain ⟨_, h⟩ := h17
        obtain ⟨al, cl, ak, ck, e, -⟩ := h.five (by decide) (by decide) (by decide) (by decide)
        exact ⟨al, cl, ak, ck, e⟩
      simp only [Act.put, List.setIfInBounds_toArray, List.set_cons_succ, List.set_cons_zero]
      iterate 2 (refine walkP_head (by kernel_rfl) rfl rfl rfl (fun K hK => ?_); go_big_quiet_op; refine hK _ ?_; clear hK K)
      intro wx hbx hF hI hP
      obtain ⟨f1, f2, f3, f4, f5⟩ : QRow w6.heap.size wx (.slice al N.1.lits.length cl) N.1.lits ∧ QRow w6.heap.size wx (.slice ak N.1.coefs.length ck) N.1.coefs ∧ InI N.1.bound ∧ N.1.lits.length ≤ 65536 ∧ N.1.coefs.length ≤ 65536 := by
        have hf0 := hF _ (.head _)
        dsimp only at hf0
        obtain ⟨_, _, _, _, e, h⟩ := hf0.five (by decide) (by decide) (by decide) (by decide)
        simp only [Value.tuple.injEq, Array.mk.injEq, List.cons.injEq, Value.agg.injEq, Value.slice.injEq, and_true, true_and] at e
        obtain ⟨⟨rfl, rfl⟩, rfl, rfl⟩ := e
        exact h
      have HSX := Lib.hid (HS6.out.on hbx)
      have kf := HSX.out.res.free
      have kc := HSX.out.res.cell
      have HQ1 := Lib.hid f1
      have HQ2 := Lib.hid f2
      have HQ3 := Lib.hid (And.intro f3 (And.intro f4 f5))
      clear hF hI hP hbx f1 f2 f3 f4 f5 ex1 ex2 h17
      iterate 2 (refine ⟨rfl, rfl, ?_⟩; go_simp)
      simp only [tailW]
      clear kf kc
      have kz := ((HSX.out.res.set 0 (.slice al N.1.lits.length cl)).set 1 (.slice ak N.1.coefs.length ck)).set 2 (.int .i64 N.1.bound)
      have kz2 := kz.cell
      simp only [List.set_cons_zero, List.set_cons_succ] at kz2
      go_wp2_with fail
      all_goals (
        refine bodyPost_ret (v := .tuple #[.agg #[.slice al N.1.lits.length cl, .slice ak N.1.coefs.length ck, .int .i64 N.1.bound], .int .i64 N.2]) (by simp [results, Tryz.f214, go_sem, kz2]) rfl ?_
        rw [HF.out]
        exact CuOut.ok HSX.out.below (by omega) HS6.out.res.lt HQ1.out HQ2.out HQ3.out.1 HQ3.out.2.1 HQ3.out.2.2)
end Go.Proofs.YteblddnoegbalaaGreat
