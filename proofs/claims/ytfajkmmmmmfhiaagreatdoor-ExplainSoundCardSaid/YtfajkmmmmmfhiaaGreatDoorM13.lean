/- My texts Ex10, Perm5, merged. -/
import Derived.Test.YtfajkmmmmmfhiaaGreatDoorM12
import Derived.Test.YtfajkmmmmmfhiaaGreatDoorM09
import Derived.Test.YtfajkmmmmmfhiaaGreatDoorM08
import Derived.Test.YtfajkmmmmmfhiaaGreatDoorM07
import Derived.Test.YtfajkmmmmmfhiaaGreatDoorM06
import Derived.Test.YtfajkmmmmmfhiaaGreatDoorM05
import Derived.Test.YtfajkmmmmmfhiaaGreatDoorM04
import Derived.Test.YtfajkmmmmmfhiaaGreatDoorM03
import Derived.Test.YtfajkmmmmmfhiaaGreatDoorM00
import Derived.Test.YtfajkmmmmmfhiaaGreatDoorProg
import Derived.WalkKit
import Derived.Lib.Hide
import Derived.Deep.QuietTactic
import Derived.BigQuiet
import Derived.WalkSpells
import Derived.Lib.SliceRun
import Derived.MapKept
import Derived.Maps.OwnSet
import Derived.Maps.OwnOps
import Derived.Test.YtfajkmmmmmfhiaaGreatDoorM02
import Derived.Test.YtfajkmmmmmfhiaaGreatDoorM01
import Derived.Deep.AppendLies
import Derived.Lib.Bytealg
import Derived.Deep.DeepCutAuto
import Derived.Laws.EntriesVeiled
import Derived.Deep.RegionWith
import Derived.Deep.OwnRows
import Derived.RangeFuncNested
import Derived.RangeFuncBound
import Derived.RangeFuncCalls
import Derived.RangeFuncLeaves
import Derived.OwnWalkIn
import Derived.TacticsInMore
import Derived.LoopNIn
import Derived.LoopIn
import Derived.Stop.RegionWithIn
import Derived.Shelf.Abstract
import Derived.Deep.LoopGhost
import Derived.Deep.DrawnRows
import Derived.Shelf.Sort.Plain
import Derived.Shelf.Slices.CompactI
import Derived.Shelf.Slices.In.SortNone
import Derived.Shelf.Strconv.Itoa3
import Derived.Shelf.Strings.BuilderK
import Derived.Shelf.Slices.SearchI
import Derived.Shelf.Slices.Empties
import Derived.Deep.AppendSrc
import Derived.Lib.SlicesCompact
import Derived.Sort.OwnSortedInts
import Derived.Test.YtfajkmmmmmfhiaaGreatDoorM11

namespace Go.Proofs.YtfajkmmmmmfhiaaGreatDoor
open Go.RowKit
structure VlSt (w : World) (vset : Value) (p : GP) (m : List Int) (x : XP) (N : Nat) (vn vs vr vm vw vx : Value) (W : World) : Prop where
  pbx : Blk W w.heap.size [.int .i64 (N : Int), vn, vs, vr, vm] 27
  xbx : Blk W (w.heap.size + 1) [vw, vx] 30
  rul : RulesIs W vr p.rules
  set : Ints W vset m
  whs : WhysIs W vw x.whys
  rst : Ints W vx x.rest
  below : Below w.heap.size w W
theorem VlSt.on {w W W' : World} {vset : Value} {p : GP} {m : List Int} {x : XP} {N : Nat} {vn vs vr vm vw vx : Value} (h : VlSt w vset p m x N vn vs vr vm vw vx W) (hb : Below W.heap.size W W') : VlSt w vset p m x N vn vs vr vm vw vx W' :=
  ⟨h.pbx.below hb, h.xbx.below hb, h.rul.below hb, h.set.below hb, h.whs.below hb, h.rst.below hb, bon h.below hb⟩
theorem WhysIs.at {a : Option Addr} {n c k : Nat} {l : List WY} {w : World} (h : WhysIs w (.slice a n c) l) (hk : k < l.length) : ∃ b off, a = some ⟨b, off, none⟩ ∧ b < w.heap.size ∧ WhyCells w b (off + k * 3) (ixY l k) := by
  obtain ⟨a1, c1, e, -, -, -, hc⟩ := h.form
  simp only [Value.slice.injEq] at e
  obtain ⟨rfl, -, rfl⟩ := e
  obtain ⟨b, off, e, hb, hcc⟩ := hc (by omega)
  exact ⟨b, off, e, hb, hcc k hk⟩
theorem chkX_false1 {p : GP} {m : List Int} {x : XP} {j : Nat} (hj : j < x.whys.length) (h : rngY p (ixY x.whys j) = false) : chkX p m x = false := by
  unfold chkX; rw [allR_false j hj h, Bool.false_and]
set_option maxHeartbeats 8000000 in
set_option maxRecDepth 100000 in
theorem validX_any (v vset vx : Value) (p : GP) (m : List Int) (x : XP) (w : World) (h : ProgIs w v p) (hm : Ints w vset m) (hx : ExplIs w vx x) (hv : validE p = 0) (hset : setQ p.n m = true) (hw : x.whys.length ≤ 500) :
    Calls Tryz.prog 56 #[v, vset, vx] w fun e w' => e = .returned (.bool (chkX p m x)) ∧ Below w.heap.size w w' := by
  have hn0 := (validP hv).n
  obtain ⟨N, hN⟩ : ∃ N : Nat, p.n = N := ⟨p.n.toNat, by omega⟩
  have hN4 : N ≤ 4000 := by omega
  have hmr : ∀ x ∈ m, 1 ≤ x ∧ x ≤ (N : Int) := fun x hx => by have := setQ_rng hset hx; omega
  have hsrt := setQ_sorted hset
  have hml : m.length ≤ 4000 := by have := inc_le hset hn0.1; omega
  have hP0 := h
  obtain ⟨vn, vs, vr, vm, rfl, hps⟩ := h
  obtain ⟨vw, vq, rfl, hwh, hrs⟩ := hx
  obtain ⟨am, cm, rfl, -⟩ := id hm.form
  obtain ⟨a1, c1, rfl, -, hl1, -, -⟩ := hps.rules.form
  obtain ⟨a2, c2, rfl, -, hl2, -, -⟩ := hwh.form
  obtain ⟨a3, c3, rfl, -, hl3, -, -⟩ := id hrs.form
  have hr8 : x.rest.length * 8 ≤ 140737488351232 := by obtain ⟨⟨_, _, _, _, _, h, _⟩, _⟩ := hrs; exact h
  have hal := bal (bal (Below.refl w.heap.size w) (.cells #[.int .i64 p.n, vn, vs, .slice a1 p.rules.length c1, vm] 27)) (.cells #[.slice a2 x.whys.length c2, .slice a3 x.rest.length c3] 30)
  have HS0 : Hid (VlSt w (.slice am m.length cm) p m x N vn vs (.slice a1 p.rules.length c1) vm (.slice a2 x.whys.length c2) (.slice a3 x.rest.length c3) ((w.alloc (.cells #[.int .i64 p.n, vn, vs, .slice a1 p.rules.length c1, vm] 27)).alloc (.cells #[.slice a2 x.whys.length c2, .slice a3 x.rest.length c3] 30))) := Lib.hid
    ⟨by rw [hN]; exact (Blk.new w [.int .i64 (N : Int), vn, vs, .slice a1 p.rules.length c1, vm] _).alloc _, Blk.new2 w _ [.slice a2 x.whys.length c2, .slice a3 x.rest.length c3] _, (hps.rules).below hal, hm.below hal, hwh.below hal, hrs.below hal, hal⟩
  have hmk : ∀ w : World, (Instr.makeSlice 23 (.int .i64 ((N : Int) + 1)) (.int .i64 ((N : Int) + 1))).run Tryz.prog w = .ok (.slice (some ⟨w.heap.size, 0, none⟩) (N + 1) (N + 1)) (w.alloc (.cells (madeCells #[.int .i64 0] (N + 1)) 3)) := fun w => run_make_row' _ _ _ _ Tryz.underlying23 infoI rfl .i64 .i64 (N + 1) (by omega) (by omega) w
  have hwI := hwh.2
  have HWI := Lib.hid hwI
  have HV := Lib.hid hv
  have HN := Lib.hid hN
  have HMR := Lib.hid hmr
  have HSRT := Lib.hid hsrt
  clear hP0 hps hwh hrs hm hal hv hset hn0 hN hmr hsrt hwI
  go_enter Tryz.func56, Tryz.ntmps56
  go_upto_region 1 with fail
  have kp0 := HS0.out.pbx.cell
  have kx0 := HS0.out.xbx.cell
  generalize (w.alloc (.cells #[.int .i64 p.n, vn, vs, .slice a1 p.rules.length c1, vm] 27)).alloc (.cells #[.slice a2 x.whys.length c2, .slice a3 x.rest.length c3] 30) = W0 at *
  go_upto_region 2 with fail
  have hal1 := bal (Below.refl W0.heap.size W0) (.cells (madeCells #[.int .i64 0] (N + 1)) 3)
  have hl5 : Blk (W0.alloc (.cells (madeCells #[.int .i64 0] (N + 1)) 3)) W0.heap.size ((lvL N []).map (Value.int .i64)) 3 := by
    have := Blk.new W0 (List.replicate (N + 1) (Value.int .i64 0)) 3
    rw [← made_list] at this
    have e : (lvL N []).map (Value.int .i64) = List.replicate (N + 1) (Value.int .i64 0) := by
      apply List.ext_getElem (by simp [lvL])
      intro i h1 h2
      simp [lvL, lvF_nil]
    rw [e]; exact this
  have hz1 : (W0.alloc (.cells (madeCells #[.int .i64 0] (N + 1)) 3)).heap.size = W0.heap.size + 1 := by simp
  have HZ1 := Lib.hid hz1
  have HS1 := Lib.hid (HS0.out.on hal1)
  have HL1 := Lib.hid hl5
  have HAL1 := Lib.hid hal1
  have kx1 := HS1.out.xbx.cell
  clear hmk hal1 hl5 hz1 kp0 kx0
  generalize W0.alloc (.cells (madeCells #[.int .i64 0] (N + 1)) 3) = W1 at *
  go_upto_region 3 with (go_at_call 51; (with_reducible refine (cloneI_sl _ x.rest _ HS1.out.rst).mono ?_); rintro e w2 ⟨a8, c8, rfl, ho8, hb8⟩; have HO2 := Lib.hid ho8; have HB2 := Lib.hid hb8; have HS2 := Lib.hid (HS1.out.on hb8); have kx2 := HS2.out.xbx.cell; clear ho8 hb8)
  have hst : VlRel p x N W0 (.slice a8 x.rest.length c8) (.int .i64 0) w2 := by
    refine ⟨0, Nat.zero_le _, rfl, fun q hq => absurd hq (Nat.not_lt_zero _), ?_, ?_, bon HAL1.out HB2.out⟩
    · rw [List.take_zero]; exact HL1.out.below HB2.out
    · have := HO2.out.ownL
      rw [HZ1.out] at this
      simpa [atomsY] using this
  have HST := Lib.hid hst
  clear hst kx1
  go_wp2
  go_loopw [8, 22] (fun va i wx => VlRel p x N W0 va i wx) (fun _ i _ => x.whys.length - (intOf i).toNat)
  case atStart => exact HST.out
  case round =>
    obtain ⟨j, hj, rfl, hrg, hld, hall, hbl⟩ := hrel
    obtain ⟨L, hL⟩ : ∃ L, x.rest ++ atomsY (x.whys.take j) = L := ⟨_, rfl⟩
    rw [hL] at hall
    obtain ⟨aL, cL, rfl⟩ := hall.slen
    have HRP := Lib.hid hrg
    have HLD := Lib.hid hld
    have HAR := Lib.hid hall
    have HBR := Lib.hid hbl
    have HSR := Lib.hid (HS0.out.on hbl)
    have hsz := hld.lt
    have hlA : L.length ≤ x.rest.length + j := by
      rw [← hL]
      unfold atomsY
      rw [List.length_append, List.length_map, List.length_take]
      omega
    have HLL := Lib.hid hL
    clear hrg hld hall hbl hL
    by_cases hlt : j < x.whys.length
    · obtain ⟨b, off, rfl, hb, hc0, hc1, hc2⟩ := HSR.out.whs.at hlt
      obtain ⟨hI0, hI1, hI2⟩ := HWI.out _ (ixY_mem0 hlt)
      obtain ⟨y, hy⟩ : ∃ y, ixY x.whys j = y := ⟨_, rfl⟩
      have htk : x.whys.take (j + 1) = x.whys.take j ++ [y] := by
        rw [List.take_succ_eq_append_getElem hlt, ← hy]
        simp only [ixY, List.getD_eq_getElem?_getD, List.getElem?_eq_getElem hlt, Option.getD_some]
      rw [hy] at hc0 hc1 hc2 hI0 hI1 hI2
      have HY := Lib.hid hy
      have HTK := Lib.hid htk
      unfold InI at hI0 hI1 hI2
      clear hy htk
      go_upto_region 6 with fail
      have hal3 := bal (Below.refl wr.heap.size wr) (.cells #[.int .i64 y.atom, .int .i64 y.rule, .int .i64 y.level] 49)
      have HS3 := Lib.hid (HSR.out.on hal3)
      have HW3 := Lib.hid (Blk.new wr [.int .i64 y.atom, .int .i64 y.rule, .int .i64 y.level] 49)
      have HL3 := Lib.hid (HLD.out.below hal3)
      have HA3 := Lib.hid (HAR.out.below hal3)
      have HB3 := Lib.hid (bon HBR.out hal3)
      have kw3 := HW3.out.cell
      have kp3 := HS3.out.pbx.cell
      have hz3 : wr.heap.size < (wr.alloc (.cells #[.int .i64 y.atom, .int .i64 y.rule, .int .i64 y.level] 49)).heap.size := by simp
      clear hal3 hc0 hc1 hc2 hb
      generalize wr.alloc (.cells #[.int .i64 y.atom, .int .i64 y.rule, .int .i64 y.level] 49) = W3 at *
      by_cases g1 : y.atom < 1
      · have HRG : Hid (rngY p (ixY x.whys j) = false) := Lib.hid (by rw [HY.out]; unfold rngY; rw [decide_eq_false (by omega), Bool.false_and])
        go_wp2_with fail
        go_ret
        exact ⟨ret_bool (chkX_false1 hlt HRG.out).symm, HS3.out.below⟩
      by_cases g2 : (N : Int) < y.atom
      · have HRG : Hid (rngY p (ixY x.whys j) = false) := Lib.hid (by rw [HY.out]; unfold rngY; rw [decide_eq_false (show ¬ y.atom ≤ p.n by have := HN.out; omega)]; simp)
        go_wp2_with fail
        go_ret
        exact ⟨ret_bool (chkX_false1 hlt HRG.out).symm, HS3.out.below⟩
      by_cases g3 : y.rule < 0
      · have HRG : Hid (rngY p (ixY x.whys j) = false) := Lib.hid (by rw [HY.out]; unfold rngY; rw [decide_eq_false (show ¬ 0 ≤ y.rule by omega)]; simp)
        go_wp2_with fail
        go_ret
        exact ⟨ret_bool (chkX_false1 hlt HRG.out).symm, HS3.out.below⟩
      by_cases g4 : (p.rules.length : Int) ≤ y.rule
      · have HRG : Hid (rngY p (ixY x.whys j) = false) := Lib.hid (by rw [HY.out]; unfold rngY; rw [decide_eq_false (show ¬ y.rule < p.rules.length by omega)]; simp)
        go_wp2_with fail
        go_ret
        exact ⟨ret_bool (chkX_false1 hlt HRG.out).symm, HS3.out.below⟩
      by_cases g5 : y.level < 1
      · have HRG : Hid (rngY p (ixY x.whys j) = false) := Lib.hid (by rw [HY.out]; unfold rngY; rw [decide_eq_false (show ¬ 1 ≤ y.level by omega)]; simp)
        go_wp2_with fail
        go_ret
        exact ⟨ret_bool (chkX_false1 hlt HRG.out).symm, HS3.out.below⟩
      have HRN : Hid (∀ q, q < j + 1 → rngY p (ixY x.whys q) = true) := Lib.hid fun q hq => by
        by_cases e : q = j
        · subst e
          rw [HY.out]
          unfold rngY
          have := HN.out
          simp only [Bool.and_eq_true, decide_eq_true_eq]
          omega
        · exact HRP.out q (by omega)
      have ka3 : W3.cell? ⟨W0.heap.size, y.atom.toNat, none⟩ = some (.int .i64 (ix (lvL N (x.whys.take j)) y.atom.toNat)) := (HL3.out.cell _).trans (map_ix _ _ (by rw [lvL_len]; omega))
      have kf3 := HL3.out.free y.atom.toNat
      have hnew : Blk (W3.setCell ⟨W0.heap.size, y.atom.toNat, none⟩ (.int .i64 y.level)) W0.heap.size ((lvL N (x.whys.take (j + 1))).map (Value.int .i64)) 3 := by
        have := HL3.out.set y.atom.toNat (.int .i64 y.level)
        rw [mapI_setL, lvL_set (by omega), ← HTK.out] at this
        exact this
      have hA4 : OwnL (W0.heap.size + 1) (W3.setCell ⟨W0.heap.size, y.atom.toNat, none⟩ (.int .i64 y.level)) (.slice aL L.length cL) L := HA3.out.same fun i hi _ _ => Below.heap_setCell _ _ _ _ (show i ≠ W0.heap.size by omega)
      have hB4 : Below W0.heap.size W0 (W3.setCell ⟨W0.heap.size, y.atom.toNat, none⟩ (.int .i64 y.level)) := HB3.out.setCell (p := ⟨W0.heap.size, y.atom.toNat, none⟩) (by show W0.heap.size ≤ W0.heap.size; exact Nat.le_refl _) _
      have HNEW := Lib.hid hnew
      have HA4 := Lib.hid hA4
      have HB4 := Lib.hid hB4
      have hw4 := HW3.out.setOther (b' := W0.heap.size) y.atom.toNat (.int .i64 y.level) (by omega)
      have kw4 := hw4.cell
      clear hnew hA4 hB4 hw4
      go_upto_region 9 with fail
      generalize W3.setCell ⟨W0.heap.size, y.atom.toNat, none⟩ (.int .i64 y.level) = W4 at *
      have hz4 := HNEW.out.lt
      have HI0 : Hid (InI y.atom) := Lib.hid (by unfold InI; exact hI0)
      go_wp2_with (at_builtin; refine wpList_appendO rfl _ _ rfl (W0.heap.size + 1) W4.heap.size _ L y.atom rfl rfl (HA4.out.below (bal (Below.refl _ _) _)) (Blk.new W4 [.int .i64 y.atom] _) HI0.out (by omega) (by simp; omega) ?_; intro g cap w5 hm5 hg5; have HM5 := Lib.hid hm5; have HB5 : Hid (Below W0.heap.size W0 w5) := Lib.hid ((bal HB4.out _).trans ⟨hg5.os, hg5.tape, hg5.output, hg5.size, fun i hi => hg5.block i (by have := HB4.out.size; simp; omega) fun e => by have := ((HA4.out.below (bal (Below.refl _ _) (.cells #[.int .i64 y.atom] 3))).lt e.symm).1; omega⟩); have HN5 := Lib.hid ((HNEW.out.alloc (.cells #[.int .i64 y.atom] 3)).same (hg5.block _ (HNEW.out.alloc (.cells #[.int .i64 y.atom] 3)).lt fun e => by have := ((HA4.out.below (bal (Below.refl _ _) (.cells #[.int .i64 y.atom] 3))).lt e.symm).1; omega)); clear hm5 hg5)
      have hatm : x.rest ++ atomsY (x.whys.take (j + 1)) = L ++ [y.atom] := by
        rw [HTK.out, ← HLL.out, List.append_assoc]; congr 1; simp [atomsY]
      have HATM := Lib.hid hatm
      clear hatm
      first
        | (go_roundw
           case rel => (exact ⟨j + 1, hlt, by go_num, HRN.out, HN5.out, by rw [HATM.out]; exact HM5.out, HB5.out⟩)
           case measure => (simp [intOf]; omega))
        | (refine ⟨?_, ?_⟩
           · (exact ⟨j + 1, hlt, by go_num, HRN.out, HN5.out, by rw [HATM.out]; exact HM5.out, HB5.out⟩)
           · (simp [intOf]; omega))
    · obtain rfl : j = x.whys.length := by omega
      rw [List.take_length] at HLD HLL
      have hall : Hid (allR x.whys.length (fun i => rngY p (ixY x.whys i)) = true) := Lib.hid (allR_true HRP.out)
      have HPERM := Lib.hid (srt_eq (L := L) HSRT.out)
      obtain ⟨b1, hb1⟩ : ∃ b, decide (srt L = m) = b := ⟨_, rfl⟩
      obtain ⟨b2, hb2⟩ : ∃ b, allR (x.rest.length - 1) (fun i => decide (ix x.rest i ≤ ix x.rest (i + 1))) = b := ⟨_, rfl⟩
      obtain ⟨b3, hb3⟩ : ∃ b, allR (x.whys.length - 1) (fun i => ordY (ixY x.whys i) (ixY x.whys (i + 1))) = b := ⟨_, rfl⟩
      have HC : Hid (chkX p m x = (b1 && (b2 && (b3 && allR x.whys.length (fun i => derT (lvT m (lvL p.n.toNat x.whys) ((ixY x.whys i).level - 1)) m (ixR p.rules (ixY x.whys i).rule.toNat) (ixY x.whys i).atom))))) := Lib.hid (by
        unfold chkX
        rw [hall.out, Bool.true_and, HLL.out, ← HPERM.out, hb1, hb2, hb3])
      have H1 := Lib.hid hb1
      have H2 := Lib.hid hb2
      have H3 := Lib.hid hb3
      have hsl := sortI_len L
      have HSL := Lib.hid hsl
      clear hb1 hb2 hb3 hsl
      go_upto_region 12 with (go_at_call 58; (with_reducible refine (sortL_own HAR.out).mono ?_); rintro e w6 ⟨rfl, ho6, hg6⟩; have HO6 := Lib.hid ho6; have HB6 : Hid (Below W0.heap.size W0 w6) := Lib.hid (HBR.out.trans ⟨hg6.os, hg6.tape, hg6.output, hg6.size, fun i hi => hg6.block i (by have := HBR.out.size; omega) fun e => by have := (HAR.out.lt e.symm).1; omega⟩); have HL6 := Lib.hid (HLD.out.same (hg6.block _ HLD.out.lt fun e => by have := (HAR.out.lt e.symm).1; omega)); clear ho6 hg6)
      have HS6 := Lib.hid (HS0.out.on HB6.out)
      have kx6 := HS6.out.xbx.cell
      clear kx2
      cases b1 with
      | false =>
        go_wp2_with (go_at_call 109; (with_reducible refine (sEqualL_any _ _ (srt L) m (W0.heap.size + 1) w6 HO6.out HS6.out.set (by omega)).mono ?_); rintro e w7 ⟨e7, hb7⟩; rw [H1.out] at e7; subst e7; have HS7 := Lib.hid (HS6.out.on hb7); have HL7 := Lib.hid (HL6.out.below hb7); have kx7 := HS7.out.xbx.cell; clear hb7)
        go_ret
        exact ⟨ret_bool (HC.out.trans (Bool.false_and _)).symm, HS7.out.below⟩
      | true =>
        cases b2 with
        | false =>
          go_wp2_with (first | (go_at_call 109; (with_reducible refine (sEqualL_any _ _ (srt L) m (W0.heap.size + 1) w6 HO6.out HS6.out.set (by omega)).mono ?_); rintro e w7 ⟨e7, hb7⟩; rw [H1.out] at e7; subst e7; have HS7 := Lib.hid (HS6.out.on hb7); have HL7 := Lib.hid (HL6.out.below hb7); have kx7 := HS7.out.xbx.cell; clear hb7) | (go_at_call 110; (with_reducible refine (isSorted_any _ x.rest w7 HS7.out.rst).mono ?_); rintro e w8 ⟨e8, hb8⟩; rw [H2.out] at e8; subst e8; have HS8 := Lib.hid (HS7.out.on hb8); have HL8 := Lib.hid (HL7.out.below hb8); have kx8 := HS8.out.xbx.cell; clear hb8))
          go_ret
          exact ⟨ret_bool (HC.out.trans rfl).symm, HS8.out.below⟩
        | true =>
          cases b3 with
          | false =>
            go_wp2_with (first | (go_at_call 109; (with_reducible refine (sEqualL_any _ _ (srt L) m (W0.heap.size + 1) w6 HO6.out HS6.out.set (by omega)).mono ?_); rintro e w7 ⟨e7, hb7⟩; rw [H1.out] at e7; subst e7; have HS7 := Lib.hid (HS6.out.on hb7); have HL7 := Lib.hid (HL6.out.below hb7); have kx7 := HS7.out.xbx.cell; clear hb7) | (go_at_call 110; (with_reducible refine (isSorted_any _ x.rest w7 HS7.out.rst).mono ?_); rintro e w8 ⟨e8, hb8⟩; rw [H2.out] at e8; subst e8; have HS8 := Lib.hid (HS7.out.on hb8); have HL8 := Lib.hid (HL7.out.below hb8); have kx8 := HS8.out.xbx.cell; clear hb8) | (go_at_call 111; (with_reducible refine (ordered_anyY _ x.whys w8 HS8.out.whs).mono ?_); rintro e w9 ⟨e9, hb9⟩; rw [H3.out] at e9; subst e9; have HS9 := Lib.hid (HS8.out.on hb9); have HL9 := Lib.hid (HL8.out.below hb9); have kx9 := HS9.out.xbx.cell; clear hb9))
            go_ret
            exact ⟨ret_bool (HC.out.trans rfl).symm, HS9.out.below⟩
          | true =>
            go_upto_region 14 with (first | (go_at_call 109; (with_reducible refine (sEqualL_any _ _ (srt L) m (W0.heap.size + 1) w6 HO6.out HS6.out.set (by omega)).mono ?_); rintro e w7 ⟨e7, hb7⟩; rw [H1.out] at e7; subst e7; have HS7 := Lib.hid (HS6.out.on hb7); have HL7 := Lib.hid (HL6.out.below hb7); have kx7 := HS7.out.xbx.cell; clear hb7) | (go_at_call 110; (with_reducible refine (isSorted_any _ x.rest w7 HS7.out.rst).mono ?_); rintro e w8 ⟨e8, hb8⟩; rw [H2.out] at e8; subst e8; have HS8 := Lib.hid (HS7.out.on hb8); have HL8 := Lib.hid (HL7.out.below hb8); have kx8 := HS8.out.xbx.cell; clear hb8) | (go_at_call 111; (with_reducible refine (ordered_anyY _ x.whys w8 HS8.out.whs).mono ?_); rintro e w9 ⟨e9, hb9⟩; rw [H3.out] at e9; subst e9; have HS9 := Lib.hid (HS8.out.on hb9); have HL9 := Lib.hid (HL8.out.below hb9); have kx9 := HS9.out.xbx.cell; clear hb9))
            go_upto_region 15 with (go_at_call 50; (with_reducible refine (deriver_any _ _ m w9 HS9.out.set ⟨_, _, _, rfl⟩).mono ?_); rintro e w10 ⟨rfl, hi10, hm10, hl10, hb10⟩; have HI10 := Lib.hid hi10; have HM10 := Lib.hid hm10; have HL10 := Lib.hid hl10; have HB10 := Lib.hid hb10; clear hi10 hm10 hl10 hb10)
            have hal11 := bal (Below.refl w10.heap.size w10) (.cells #[.func (.func 106) #[] #[.pointer (some ⟨w9.heap.size + 2, 0, none⟩), .pointer (some ⟨w9.heap.size + 1, 0, none⟩)]] 86)
            have hb911 : Below w9.heap.size w9 (w10.alloc (.cells #[.func (.func 106) #[] #[.pointer (some ⟨w9.heap.size + 2, 0, none⟩), .pointer (some ⟨w9.heap.size + 1, 0, none⟩)]] 86)) := bon HB10.out hal11
            have HS11 := Lib.hid (HS9.out.on hb911)
            have hdv : DvF (w10.alloc (.cells #[.func (.func 106) #[] #[.pointer (some ⟨w9.heap.size + 2, 0, none⟩), .pointer (some ⟨w9.heap.size + 1, 0, none⟩)]] 86)) w10.heap.size (w9.heap.size + 2) w9.heap.size (w9.heap.size + 1) m (lvL N x.whys) :=
              ⟨Blk.new w10 [.func (.func 106) #[] #[.pointer (some ⟨w9.heap.size + 2, 0, none⟩), .pointer (some ⟨w9.heap.size + 1, 0, none⟩)]] _, ⟨HI10.out.below hal11, ⟨_, HM10.out.below hal11, HS11.out.set⟩, HSRT.out⟩, _, HL10.out.below hal11, lv_ints (HL9.out.below hb911) (fun y hy => (HWI.out y hy).2.2) hN4⟩
            have HDV := Lib.hid hdv
            have kx11 := HS11.out.xbx.cell
            have HN0 : Hid (p.n.toNat = N) := Lib.hid (by have := HN.out; omega)
            clear hal11 hb911 hdv kx6
            generalize w10.alloc (.cells #[.func (.func 106) #[] #[.pointer (some ⟨w9.heap.size + 2, 0, none⟩), .pointer (some ⟨w9.heap.size + 1, 0, none⟩)]] 86) = W11 at *
            have HCT : Hid (∀ w', Below W11.heap.size W11 w' → ∀ j, j < x.whys.length → Calls Tryz.prog 113 #[.agg #[.int .i64 (ixY x.whys j).atom, .int .i64 (ixY x.whys j).rule, .int .i64 (ixY x.whys j).level], .pointer (some ⟨w10.heap.size, 0, none⟩), .pointer (some ⟨w.heap.size, 0, none⟩)] w' fun e w'' => e = .returned (.bool (!derT (lvT m (lvL N x.whys) ((ixY x.whys j).level - 1)) m (ixR p.rules (ixY x.whys j).rule.toNat) (ixY x.whys j).atom)) ∧ Below w'.heap.size w' w'') := Lib.hid fun w' hb j hj => by
              have hr := allR_get hall.out j hj
              unfold rngY at hr
              simp only [Bool.and_eq_true, decide_eq_true_eq] at hr
              exact vc_any (ixY x.whys j) p m (lvL N x.whys) _ vn vs _ vm _ _ _ _ _ w' (HDV.out.below hb) (HS11.out.pbx.below hb) (HS11.out.rul.below hb) HV.out ⟨hr.2.2.1, hr.2.2.2.1⟩ ⟨hr.2.2.2.2, (HWI.out _ (ixY_mem0 hj)).2.2⟩ (fun z hz => by have := HMR.out z hz; rw [lvL_len]; omega)
            go_wp2_with (go_at_call 112; (with_reducible refine (ctnY_vc _ x.whys W11 HS11.out.whs (fun j => !derT (lvT m (lvL N x.whys) ((ixY x.whys j).level - 1)) m (ixR p.rules (ixY x.whys j).rule.toNat) (ixY x.whys j).atom) _ _ HCT.out).mono ?_); rintro e w12 ⟨rfl, hb12⟩; have HS12 := Lib.hid (HS11.out.on hb12); clear hb12)
            go_ret
            refine ⟨ret_bool ?_, HS12.out.below⟩
            rw [HC.out, HN0.out, allR_not]
            rfl
set_option maxHeartbeats 2000000 in
set_option maxRecDepth 100000 in
theorem checkX_any (v vset vx : Value) (p : GP) (m : List Int) (x : XP) (w : World) (h : ProgIs w v p) (hm : Ints w vset m) (hx : ExplIs w vx x) (hw : x.whys.length ≤ 500) :
    Calls Tryz.prog 15 #[v, vset, vx] w fun e w' => e = .returned (.tuple #[.bool (decide (xE p m = 0) && chkX p m x), .int .i64 (xE p m)]) ∧ Below w.heap.size w w' := by
  have h0 := h
  have hx0 := hx
  obtain ⟨vn, vs, vr, vm, rfl, hps⟩ := h
  obtain ⟨vw, vq, rfl, hwh, hrs⟩ := hx
  obtain ⟨am, cm, rfl, -⟩ := id hm.form
  obtain ⟨a2, c2, rfl, -⟩ := hwh.form
  obtain ⟨a3, c3, rfl, -⟩ := hrs.form
  have hal := bal (bal (Below.refl w.heap.size w) (.cells #[.int .i64 p.n, vn, vs, vr, vm] 27)) (.cells #[.slice a2 x.whys.length c2, .slice a3 x.rest.length c3] 30)
  have hb1 := (Blk.new w [.int .i64 p.n, vn, vs, vr, vm] 27).alloc (.cells #[.slice a2 x.whys.length c2, .slice a3 x.rest.length c3] 30)
  have hb2 := Blk.new2 w (.cells #[.int .i64 p.n, vn, vs, vr, vm] 27) [.slice a2 x.whys.length c2, .slice a3 x.rest.length c3] 30
  have HP := Lib.hid (h0.below hal)
  have HM := Lib.hid (hm.below hal)
  have HX := Lib.hid (hx0.below hal)
  have HB1 := Lib.hid hb1
  have HB2 := Lib.hid hb2
  have HAL := Lib.hid hal
  clear h0 hx0 hps hwh hrs hm hal hb1 hb2
  go_enter Tryz.func15, Tryz.ntmps15
  go_upto_region 1 with fail
  have k1 := HB1.out.cell
  have k2 := HB2.out.cell
  generalize (w.alloc (.cells #[.int .i64 p.n, vn, vs, vr, vm] 27)).alloc (.cells #[.slice a2 x.whys.length c2, .slice a3 x.rest.length c3] 30) = W0 at *
  by_cases he : xE p m = 0
  · have HE := Lib.hid he
    obtain ⟨hv, hset, -⟩ := xE_ok he
    have HV := Lib.hid hv
    have HST := Lib.hid hset
    clear he hv hset
    go_wp2_with (first
      | (go_at_call 49; (with_reducible refine (xcheck_any _ _ p m _ HP.out HM.out).mono ?_); rintro e w1 ⟨e1, hb1⟩; rw [HE.out] at e1; subst e1; have kk1 := (HB1.out.below hb1).cell; have kk2 := (HB2.out.below hb1).cell; have HBB := Lib.hid hb1; clear hb1)
      | (go_at_call 56; (with_reducible refine (validX_any _ _ _ p m x _ (HP.out.below HBB.out) (HM.out.below HBB.out) (HX.out.below HBB.out) HV.out HST.out hw).mono ?_); rintro e w2 ⟨rfl, hb2⟩))
    go_ret2
    exact ⟨by simp [HE.out], bon (bon HAL.out HBB.out) hb2⟩
  · have hne : (xE p m != 0) = true := by simp [he]
    have hne2 : (xE p m == 0) = false := by simp [he]
    have HE := Lib.hid he
    clear he
    go_wp2_with (go_at_call 49; (with_reducible refine (xcheck_any _ _ p m _ HP.out HM.out).mono ?_); rintro e w1 ⟨rfl, hb1⟩)
    go_ret2
    exact ⟨by simp [HE.out], bon HAL.out hb1⟩
def Enters (P : Program) (o : Oper) (a : Act) (w : World) : Prop := ∃ f args w', (execOp a.eval o).run P w = .ok (.enter f args) w'
def tailC (P : Program) (ops : Array Oper) (C' : World → Prop) (Q : Exit → Act → World → Prop) : List Oper → Act → World → Prop
  | [], a, w => Q .normal a w
  | o :: rest, a, w => Region.wanted o (yielded ops a.tmps) = true ∧ (tame o = true ∨ Enters P o a w) ∧ o.wp P a w (fun a' w' => C' w' ∧ tailC P ops C' Q rest a' w') (fun _ _ _ => False)
theorem wp_agreeC {P : Program} {ops : Array Oper} {o : Oper} (hs : ∀ cs b, o.op ≠ .select cs b) {a b : Act} (h : Agree ops o a b) {w : World} (ht : tame o = true ∨ Enters P o a w) {K : Act → World → Prop} {Q : Exit → Act → World → Prop} (hw : o.wp P a w K (fun _ _ _ => False)) :
    o.wp P b w (fun b' w' => ∃ v, b' = b.put o.dst v ∧ K (a.put o.dst v) w') Q := by
  rcases ht with ht | ⟨f, args, w', hr⟩
  · exact wp_agree hs ht h hw
  · unfold Oper.wp at *
    rw [← execOp_congr o hs h.eval]
    rw [hr] at hw ⊢
    rw [Oper.upon_enter] at hw ⊢
    refine Calls.mono hw fun e w2 he => ?_
    cases e with
    | returned v => exact ⟨v, rfl, he⟩
    | panicked c => exact he.elim
    | outgrown => obtain ⟨_, _, h⟩ := he; exact h.elim
section
variable {P : Program} {l : List Oper} {w0 : World} {Φ : Nat → List Value → Value → Nat → Nat → World → Prop} {ism : Nat → Bool} {D : Nat → Nat → Bool} {Q : Exit → Act → World → Prop} {E : Act → World → Prop} {Cl : Nat → World → Prop} {n : Nat} {a0 : Act}
theorem any_of_tailC (c : Chk l.toArray D) {C' : World → Prop} (hchain : ∀ j, n ≤ j → j + 1 < l.length → D (j + 1) j = true) :
    ∀ (fuel : Nat) (listed : Array Bool) (w : World) (vals v1 : Nat → Value) (j : Nat), listed.size = l.length → unl listed l.length ≤ fuel → n ≤ j → j ≤ l.length →
      (∀ k, k < l.length → listed.getD k false = true → ∀ i, i < l.length → D k i = true → listed.getD i false = true) →
      (∀ k, n ≤ k → k < l.length → (listed.getD k false = true ↔ k < j)) →
      (∀ k, k < n → listed.getD k false = false → ∀ w', C' w' → DetStep P l.toArray (opAt l k) (Afr l a0 v1 k) w' (v1 k)) →
      (∀ k, k < l.length → listed.getD k false = true → v1 k = vals k) → C' w → tailC P l.toArray C' Q (l.drop j) (Afr l a0 v1 j) w →
      wpAny P .any l.toArray Q fuel listed (fr l.toArray vals (fun j => listed.getD j false) a0 l.length) w := by
  intro fuel
  have hend : ∀ (listed : Array Bool) (w : World) (vals v1 : Nat → Value) (j : Nat), listed.size = l.length → n ≤ j → j ≤ l.length → (∀ k, n ≤ k → k < l.length → (listed.getD k false = true ↔ k < j)) →
      (∀ k, k < l.length → listed.getD k false = true → v1 k = vals k) → tailC P l.toArray C' Q (l.drop j) (Afr l a0 v1 j) w → Region.ready .any l.toArray listed = [] → Q .normal (fr l.toArray vals (fun j => listed.getD j false) a0 l.length) w := by
    intro listed w vals v1 j hsz hnj hjl hj hv ht hr
    have hall := all_listed c hsz hr
    have hjn : j = l.length := by
      rcases Nat.lt_or_ge j l.length with h | h
      · exact absurd ((hj j hnj h).1 (hall j h)) (by omega)
      · omega
    subst hjn
    rw [List.drop_length] at ht
    have e : fr l.toArray vals (fun j => listed.getD j false) a0 l.length = Afr l a0 v1 l.length := fr_congr _ (fun k hk => ⟨hall k hk, fun _ => (hv k hk (hall k hk)).symm⟩)
    rw [e]
    exact ht
  induction fuel with
  | zero =>
    intro listed w vals v1 j hsz hfuel hnj hjl hcl hj hlate hv hw ht
    have hr := ready_nil (l := l) hsz (unl_zero (listed := listed) l.length (by omega))
    exact ⟨hr, hend listed w vals v1 j hsz hnj hjl hj hv ht hr⟩
  | succ fuel ih =>
    intro listed w vals v1 j hsz hfuel hnj hjl hcl hj hlate hv hw ht
    refine ⟨hend listed w vals v1 j hsz hnj hjl hj hv ht, fun i hir => ?_⟩
    obtain ⟨h0, o, ho, hdep⟩ := mem_ready.1 hir
    have hil : i < l.length := by have := (Array.getElem?_eq_some_iff.1 ho).1; simpa using this
    have hlt : i < listed.size := by omega
    obtain rfl : o = opAt l i := by rw [opAt_eq hil] at ho; exact (Option.some.inj ho).symm
    have hiun : listed.getD i false = false := by simp [hlt] at h0 ⊢; exact h0
    have hdeps := deps_listed c hcl hil hdep
    have hno : ∀ k, k < l.length → listed.getD k false = true → D k i = false := fun k hk hlk => by
      cases hd : D k i with
      | false => rfl
      | true => rw [hcl k hk hlk i hil hd] at hiun; cases hiun
    have hfuel' : unl (listed.setIfInBounds i true) l.length ≤ fuel := by have := (unl_set hlt hiun l.length).2 hil; omega
    have hsel : ∀ cs b, (opAt l i).op ≠ .select cs b := fun cs b => c.sel i _ cs b (opAt_eq hil)
    have hag := agree_real (a0 := a0) (v1 := v1) (vals := vals) c hil hiun hdeps hno (fun k hk hlk => hv k (by omega) hlk)
    rcases Nat.lt_or_ge i n with hin | hin
    · -- late
      refine wpOp_of_det (opAt_eq hil) (((hlate i hin hiun) w hw).agree hsel hag) ?_
      rw [fr_step c hil hlt hiun hno]
      refine ih _ w _ v1 j (by simpa using hsz) hfuel' hnj hjl (closed_set hlt hcl hdeps) (fun k h1 h2 => ?_) (fun k h1 h2 => ?_) (fun k h1 h2 => ?_) hw ht
      · rw [getD_set hlt, if_neg (by omega)]; exact hj k h1 h2
      · rw [getD_set hlt] at h2
        split at h2
        · cases h2
        · exact hlate k h1 h2
      · rw [getD_set hlt] at h2
        by_cases hki : k = i
        · subst hki; rw [updN_same]
        · rw [if_neg hki] at h2; rw [updN_other _ _ hki]; exact hv k h1 h2
    · -- the next of the tail
      have hij : i = j := by
        have h1 : ¬ i < j := fun h => by rw [(hj i hin hil).2 h] at hiun; cases hiun
        rcases Nat.lt_or_ge j i with h2 | h2
        · exfalso
          have hji : ∀ d, j + 1 + d < l.length → D (j + 1 + d) j = true := fun d => by
            induction d with
            | zero => exact fun h => hchain j hnj h
            | succ d ihd => exact fun h => c.trans _ (j + 1 + d) _ (by simpa using h) (by simp; omega) (by simp; omega) (hchain (j + 1 + d) (by omega) (by omega)) (ihd (by omega))
          have hd := hji (i - (j + 1)) (by omega)
          rw [show j + 1 + (i - (j + 1)) = i by omega] at hd
          have := (hj j hnj (by omega)).1 (hdeps j (by omega) hd)
          omega
        · omega
      subst hij
      have hdrop : l.drop i = opAt l i :: l.drop (i + 1) := by
        rw [List.drop_eq_getElem_cons hil]
        simp [opAt, List.getD, hil]
      rw [hdrop] at ht
      obtain ⟨hwant, htame, hwp⟩ := ht
      have := wp_agreeC (Q := Q) hsel hag htame hwp
      unfold wpOp
      simp only [opAt_eq hil]
      rw [← hag.wanted, hwant, if_pos rfl]
      refine .inl (Oper.wp_mono (fun b' w' ⟨v, hb', hw', ht'⟩ => ?_) this)
      rw [hb', fr_step c hil hlt hiun hno]
      refine ih _ w' _ (updN v1 i v) (i + 1) (by simpa using hsz) hfuel' (by omega) (by omega) (closed_set hlt hcl hdeps) (fun k h1 h2 => ?_) (fun k h1 h2 => ?_) (fun k h1 h2 => ?_) hw' ?_
      · rw [getD_set hlt]
        by_cases hki : k = i
        · subst hki; simp
        · rw [if_neg hki, hj k h1 h2]; omega
      · rw [getD_set hlt, if_neg (by omega)] at h2
        have e : Afr l a0 (updN v1 i v) k = Afr l a0 v1 k := fr_congr k (fun m hm => ⟨rfl, fun _ => updN_other _ _ (by omega)⟩)
        rw [e, updN_other _ _ (by omega)]
        exact hlate k h1 h2
      · rw [getD_set hlt] at h2
        by_cases hki : k = i
        · subst hki; rw [updN_same, updN_same]
        · rw [if_neg hki] at h2; rw [updN_other _ _ hki, updN_other _ _ hki]; exact hv k h1 h2
      · rw [Afr_succ l a0 _ hil, updN_same]
        have e : Afr l a0 (updN v1 i v) i = Afr l a0 v1 i := fr_congr i (fun m hm => ⟨rfl, fun _ => updN_other _ _ (by omega)⟩)
        rw [e]
        exact ht'
theorem any_of_headC (c : Chk l.toArray D) (hn : n ≤ l.length) {C' : World → Prop} (hC : ∀ w, Below w0.heap.size w0 w → C' w) (hchain : ∀ j, n ≤ j → j + 1 < l.length → D (j + 1) j = true)
    (hlate : ∀ i, i < n → lateB l D n i = true → ism i = false)
    (hΦ : ∀ i args v lo hi w w', Φ i args v lo hi w → Below w.heap.size w w' → Φ i args v lo hi w')
    (hw : walkP P l.toArray w0 (fun i w => if lateB l D n i then C' w else Below w0.heap.size w0 w) Φ ism D (tailC P l.toArray C' Q (l.drop n)) (l.take n) 0 a0 [] []) :
    ∀ (fuel : Nat) (listed : Array Bool) (w : World) (vals : Nat → Value) (lo hi : Nat → Nat), listed.size = l.length → unl listed l.length ≤ fuel → Below w0.heap.size w0 w →
      (∀ k, k < l.length → listed.getD k false = true → ∀ i, i < l.length → D k i = true → listed.getD i false = true) →
      (∀ k, n ≤ k → k < l.length → listed.getD k false = false) →
      (∀ i, i < n → listed.getD i false = true → Good P l w0 (fun i w => if lateB l D n i then C' w else Below w0.heap.size w0 w) Φ ism a0 vals lo hi w i) →
      (∀ i j, i < n → j < n → listed.getD i false = true → listed.getD j false = true → ism i = true → ism j = true → i ≠ j → hi i ≤ lo j ∨ hi j ≤ lo i) →
      wpAny P .any l.toArray Q fuel listed (fr l.toArray vals (fun j => listed.getD j false) a0 l.length) w := by
  have hCl : ∀ i w, Below w0.heap.size w0 w → (fun i w => if lateB l D n i then C' w else Below w0.heap.size w0 w) i w := fun i w hb => by
    show (if lateB l D n i then C' w else _)
    split
    · exact hC w hb
    · exact hb
  intro fuel
  induction fuel with
  | zero =>
    intro listed w vals lo hi hsz hfuel hb hcl hnt hg hdj
    have hall := unl_zero (listed := listed) l.length (by omega)
    have hnl : n = l.length := by
      rcases Nat.lt_or_ge n l.length with h | h
      · exact absurd (hall n h) (by rw [hnt n (Nat.le_refl _) h]; exact Bool.false_ne_true)
      · omega
    obtain ⟨v1, lo1, hi1, w1, e1, b1, c1, g1, d1, walk⟩ := complete hn hCl c hΦ hw hb (fun i h1 h2 j h3 h4 => hcl i (by omega) h2 j (by omega) h4) hg hdj n (Nat.le_refl _)
    have ee : ∀ j, j < n → v1 j = vals j ∧ lo1 j = lo j ∧ hi1 j = hi j := fun j hj => e1 j (hall j (by omega))
    rw [show (l.take n).drop n = [] by simp, facts_congr n ee, ints_congr n (fun j hj => (ee j hj).2)] at walk
    have ht := walk w hb (fun p hp => by
      obtain ⟨j, h1, h2, rfl⟩ := mem_facts _ p hp
      have := hg j h1 (hall j (by omega))
      unfold Good at this
      rw [if_pos h2] at this
      exact this.1) (fun q hq => by
      obtain ⟨j, h1, h2, rfl⟩ := mem_ints _ q hq
      have := hg j h1 (hall j (by omega))
      unfold Good at this
      rw [if_pos h2] at this
      exact this.2.2.2) (ints_pair _ (fun i j h1 h2 => hdj i j h1 h2 (hall i (by omega)) (hall j (by omega))))
    exact any_of_tailC c hchain 0 listed w vals v1 n hsz hfuel (Nat.le_refl _) hn hcl (fun k h1 h2 => by omega) (fun k h1 h2 => by rw [hall k (by omega)] at h2; cases h2) (fun k h1 _ => (ee k (by omega)).1) (hC w hb) ht
  | succ fuel ih =>
    intro listed w vals lo hi hsz hfuel hb hcl hnt hg hdj
    by_cases hfull : ∀ k, k < n → lateB l D n k = false → listed.getD k false = true
    · obtain ⟨v1, lo1, hi1, w1, e1, b1, c1, g1, d1, walk⟩ := complete hn hCl c hΦ hw hb (fun i h1 h2 j h3 h4 => hcl i (by omega) h2 j (by omega) h4) hg hdj n (Nat.le_refl _)
      have hmem : ∀ j, j < n → ism j = true → listed.getD j false = true := fun j hj hm => hfull j hj (by
        cases h : lateB l D n j with
        | false => rfl
        | true => rw [hlate j hj h] at hm; cases hm)
      have good : ∀ j, j < n → ism j = true → Φ j (argsOf (opAt l j) (Afr l a0 v1 j)) (v1 j) (lo1 j) (hi1 j) w ∧ hi1 j ≤ w.heap.size := fun j hj hm => by
        have hlj := hmem j hj hm
        have := Good.congr (vals' := v1) (lo' := lo1) (hi1' := hi1) c (by omega) (fun k hkl hk => (e1 k (hcl j (by omega) hlj k hkl hk)).1.symm) (e1 j hlj).1.symm (e1 j hlj).2.1.symm (e1 j hlj).2.2.symm (hg j hj hlj)
        unfold Good at this
        rw [if_pos hm] at this
        exact ⟨this.1, this.2.2.2⟩
      rw [show (l.take n).drop n = [] by simp] at walk
      have ht := walk w hb (fun p hp => by
        obtain ⟨j, h1, h2, rfl⟩ := mem_facts _ p hp
        exact (good j h1 h2).1) (fun q hq => by
        obtain ⟨j, h1, h2, rfl⟩ := mem_ints _ q hq
        exact (good j h1 h2).2) (ints_pair _ (fun i j h1 h2 m1 m2 hne => d1 i j h1 h2 (.inl (hmem i h1 m1)) (.inl (hmem j h2 m2)) m1 m2 hne))
      refine any_of_tailC c hchain (fuel + 1) listed w vals v1 n hsz hfuel (Nat.le_refl _) hn hcl (fun k h1 h2 => ?_) (fun k h1 h2 => ?_) (fun k h1 h2 => (e1 k h2).1) (hC w hb) ht
      · rw [hnt k h1 h2]; simp; omega
      · have hl : lateB l D n k = true := by
          cases h : lateB l D n k with
          | true => rfl
          | false => rw [hfull k h1 h] at h2; cases h2
        have := g1 k h1 (.inr h1)
        unfold Good at this
        rw [if_neg (by rw [hlate k h1 hl]; exact Bool.false_ne_true)] at this
        intro w' hw'
        exact this w' (by show (if lateB l D n k then _ else _); rw [if_pos hl]; exact hw')
    · refine ⟨fun hr => absurd (fun k hk _ => all_listed c hsz hr k (by omega)) hfull, fun i hir => ?_⟩
      obtain ⟨h0, o, ho, hdep⟩ := mem_ready.1 hir
      have hil : i < l.length := by have := (Array.getElem?_eq_some_iff.1 ho).1; simpa using this
      have hlt : i < listed.size := by omega
      obtain rfl : o = opAt l i := by rw [opAt_eq hil] at ho; exact (Option.some.inj ho).symm
      have hiun : listed.getD i false = false := by simp [hlt] at h0 ⊢; exact h0
      have hdeps := deps_listed c hcl hil hdep
      have hin : i < n := by
        rcases Nat.lt_or_ge i n with h | h
        · exact h
        · exfalso
          have hni : i = n := by
            rcases Nat.lt_or_ge n i with h2 | h2
            · exfalso
              have hji : ∀ d, n + 1 + d < l.length → D (n + 1 + d) n = true := fun d => by
                induction d with
                | zero => exact fun h => hchain n (Nat.le_refl _) h
                | succ d ihd => exact fun h => c.trans _ (n + 1 + d) _ (by simpa using h) (by simp; omega) (by simp; omega) (hchain (n + 1 + d) (by omega) (by omega)) (ihd (by omega))
              have hd := hji (i - (n + 1)) (by omega)
              rw [show n + 1 + (i - (n + 1)) = i by omega] at hd
              have := hdeps n (by omega) hd
              rw [hnt n (Nat.le_refl _) (by omega)] at this
              cases this
            · omega
          subst hni
          refine hfull fun k hk hl => hdeps k (by omega) ?_
          unfold lateB at hl
          simp only [Bool.and_eq_false_iff, decide_eq_false_iff_not, Bool.not_eq_false'] at hl
          exact hl.resolve_left (by omega)
      have hno : ∀ k, k < l.length → listed.getD k false = true → D k i = false := fun k hk hlk => by
        cases hd : D k i with
        | false => rfl
        | true => rw [hcl k hk hlk i hil hd] at hiun; cases hiun
      obtain ⟨v1, lo1, hi1, w1, e1, b1, c1, g1, d1, walk⟩ := complete hn hCl c hΦ hw hb (fun i h1 h2 j h3 h4 => hcl i (by omega) h2 j (by omega) h4) hg hdj i (by omega)
      have hdrop : (l.take n).drop i = opAt l i :: (l.take n).drop (i + 1) := by
        rw [List.drop_eq_getElem_cons (by simp; omega)]
        simp [opAt, List.getD, hil]
      rw [hdrop] at walk
      unfold walkP at walk
      have hag := agree_real (a0 := a0) (v1 := v1) (vals := vals) c hil hiun hdeps hno (fun k hk hlk => (e1 k hlk).1)
      have hsel : ∀ cs b, (opAt l i).op ≠ .select cs b := fun cs b => c.sel i _ cs b (opAt_eq hil)
      have hcl' := closed_set hlt hcl hdeps
      have hfuel' : unl (listed.setIfInBounds i true) l.length ≤ fuel := by have := (unl_set hlt hiun l.length).2 hil; omega
      have hnt' : ∀ k, n ≤ k → k < l.length → (listed.setIfInBounds i true).getD k false = false := fun k h1 h2 => by
        rw [getD_set hlt, if_neg (by omega)]; exact hnt k h1 h2
      by_cases hm : ism i = true
      · rw [if_pos hm] at walk
        obtain ⟨hstep, _⟩ := walk
        have hst := hstep w hb (fun p hp hd => by
          obtain ⟨j, h1, h2, rfl⟩ := mem_facts i p hp
          have hlj := hdeps j (by omega) hd
          have := Good.congr (vals' := v1) (lo' := lo1) (hi1' := hi1) c (by omega) (fun k hkl hk => (e1 k (hcl j (by omega) hlj k hkl hk)).1.symm) (e1 j hlj).1.symm (e1 j hlj).2.1.symm (e1 j hlj).2.2.symm (hg j (by omega) hlj)
          unfold Good at this
          rw [if_pos h2] at this
          exact this.1)
        refine wpOp_of_mem (opAt_eq hil) (hst.agree hsel hag) fun v w' ⟨hb', hφ⟩ => ?_
        rw [fr_step c hil hlt hiun hno]
        refine ih _ w' (updN vals i v) (updN lo i w.heap.size) (updN hi i w'.heap.size) (by simpa using hsz) hfuel' (hb.trans (hb'.mono hb.size)) hcl' hnt' (fun j hj hlj => ?_) (fun j k hj hk hlj hlk mj mk hne => ?_)
        · rw [getD_set hlt] at hlj
          by_cases hji : j = i
          · subst hji
            unfold Good
            rw [if_pos hm, updN_same, updN_same, updN_same]
            refine ⟨?_, hb.size, hb'.size, Nat.le_refl _⟩
            have : Agree l.toArray (opAt l j) (Afr l a0 v1 j) (Afr l a0 (updN vals j v) j) := agree_vals c hil (fun k hk hd => by
              rw [updN_other _ _ (by have := c.lt j k (by simpa using hil) (by simpa using hk) hd; omega)]
              exact (e1 k (hdeps k hk hd)).1)
            rw [← this.args]
            exact hφ
          · rw [if_neg hji] at hlj
            exact Good.congr c (by omega) (fun k hk hd => (updN_other _ _ (by rintro rfl; rw [hno j (by omega) hlj] at hd; cases hd)).symm) (updN_other _ _ hji).symm (updN_other _ _ hji).symm (updN_other _ _ hji).symm ((hg j hj hlj).later hΦ hb')
        · rw [getD_set hlt] at hlj hlk
          have hle : ∀ j, j < n → listed.getD j false = true → ism j = true → hi j ≤ w.heap.size := fun j h1 h2 h3 => by
            have := hg j h1 h2
            unfold Good at this
            rw [if_pos h3] at this
            exact this.2.2.2
          by_cases hji : j = i
          · subst hji
            have hkj : k ≠ j := fun e => hne e.symm
            rw [if_neg hkj] at hlk
            rw [updN_same, updN_same, updN_other _ _ hkj, updN_other _ _ hkj]
            exact .inr (hle k hk hlk mk)
          · rw [if_neg hji] at hlj
            by_cases hki : k = i
            · subst hki
              rw [updN_same, updN_same, updN_other _ _ hji, updN_other _ _ hji]
              exact .inl (hle j hj hlj mj)
            · rw [if_neg hki] at hlk
              rw [updN_other _ _ hji, updN_other _ _ hji, updN_other _ _ hki, updN_other _ _ hki]
              exact hdj j k hj hk hlj hlk mj mk hne
      · rw [if_neg hm] at walk
        obtain ⟨v, hdet, _⟩ := walk
        refine wpOp_of_det (opAt_eq hil) ((hdet w (hCl i w hb)).agree hsel hag) ?_
        rw [fr_step c hil hlt hiun hno]
        refine ih _ w (updN vals i v) lo hi (by simpa using hsz) hfuel' hb hcl' hnt' (fun j hj hlj => ?_) (fun j k hj hk hlj hlk mj mk hne => ?_)
        · rw [getD_set hlt] at hlj
          by_cases hji : j = i
          · subst hji
            unfold Good
            rw [if_neg hm, updN_same]
            have : Agree l.toArray (opAt l j) (Afr l a0 v1 j) (Afr l a0 (updN vals j v) j) := agree_vals c hil (fun k hk hd => by
              rw [updN_other _ _ (by have := c.lt j k (by simpa using hil) (by simpa using hk) hd; omega)]
              exact (e1 k (hdeps k hk hd)).1)
            exact fun w' hw' => (hdet w' hw').agree hsel this
          · rw [if_neg hji] at hlj
            exact Good.congr c (by omega) (fun k hk hd => (updN_other _ _ (by rintro rfl; rw [hno j (by omega) hlj] at hd; cases hd)).symm) (updN_other _ _ hji).symm rfl rfl (hg j hj hlj)
        · rw [getD_set hlt] at hlj hlk
          have hji : j ≠ i := by rintro rfl; exact hm mj
          have hki : k ≠ i := by rintro rfl; exact hm mk
          rw [if_neg hji] at hlj
          rw [if_neg hki] at hlk
          exact hdj j k hj hk hlj hlk mj mk hne
theorem any_tailC {a : Act} {w : World} (m : List Nat) (n : Nat) (C' : World → Prop) (Φ : Nat → List Value → Value → Nat → Nat → World → Prop) (ism : Nat → Bool) (hB : chk l.toArray m = true) (hT : chkTail l m n ism = true)
    (hC : ∀ w', Below w.heap.size w w' → C' w')
    (hΦ : ∀ i args v lo hi w w', Φ i args v lo hi w → Below w.heap.size w w' → Φ i args v lo hi w')
    (h : walkP P l.toArray w (fun i w' => if lateB l (dm m) n i then C' w' else Below w.heap.size w w') Φ ism (dm m) (tailC P l.toArray C' Q (l.drop n)) (l.take n) 0 a [] []) : wpAny P .any l.toArray Q l.toArray.size (Array.replicate l.toArray.size false) a { w with drawn := w.drawn + 1 } := by
  unfold chkTail at hT
  simp only [Bool.and_eq_true, decide_eq_true_eq, List.all_eq_true, List.mem_range, Bool.or_eq_true, Bool.not_eq_true'] at hT
  obtain ⟨⟨hn, h1⟩, h2⟩ := hT
  have hun : ∀ k, unl (Array.replicate l.toArray.size false) k ≤ k := fun k => by
    induction k with
    | zero => exact Nat.le_refl _
    | succ k ih => unfold unl; split <;> omega
  have hf : ∀ j, (Array.replicate l.toArray.size false).getD j false = false := fun j => by
    simp only [Array.getD_eq_getD_getElem?, Array.getElem?_replicate]
    split <;> simp
  have := any_of_headC (Q := Q) (a0 := a) (w0 := w) (ism := ism) (chk_spec hB) hn hC (fun j hj hj2 => by
    rcases h1 j (by omega) with (h3 | h3) | h3
    · omega
    · omega
    · exact h3) (fun i hi hl => by
    rcases h2 i hi with h3 | h3
    · rw [hl] at h3; cases h3
    · exact h3) hΦ h l.toArray.size (Array.replicate l.toArray.size false) { w with drawn := w.drawn + 1 } (fun _ => undef) (fun _ => 0) (fun _ => 0) (by simp) (by simpa using hun l.length) (Below.refl _ w).drew
    (fun k _ h => by rw [hf] at h; cases h) (fun k _ _ => hf k) (fun i _ h => by rw [hf] at h; cases h) (fun i j _ _ h => by rw [hf] at h; cases h)
  have e : ∀ k, fr l.toArray (fun _ => undef) (fun j => (Array.replicate l.toArray.size false).getD j false) a k = a := fun k => by
    induction k with
    | zero => rfl
    | succ k ih => rw [fr, if_neg (by rw [hf]; exact Bool.false_ne_true), ih]
  rw [e] at this
  exact this
end
section
variable {P : Program} {l : List Oper} {s : List Nat} {Q : Exit → Act → World → Prop}
theorem wp_region_tailC {id : Nat} {a : Act} {w : World} (s : List Nat) (n : Nat) (C' : World → Prop) (Φ : Nat → List Value → Value → Nat → Nat → World → Prop) (ism : Nat → Bool) (hm : P.follows .mixedOrders = true) (hS : permB l s = true) (hB : chk (reorder l s).toArray (masks (reorder l s)) = true)
    (hT : chkTail (reorder l s) (masks (reorder l s)) n ism = true)
    (hC : ∀ w', Below w.heap.size w w' → C' w')
    (hΦ : ∀ i args v lo hi w w', Φ i args v lo hi w → Below w.heap.size w w' → Φ i args v lo hi w')
    (h : walkP P (reorder l s).toArray w (fun i w' => if lateB (reorder l s) (dm (masks (reorder l s))) n i then C' w' else ∃ e : Ext w, w' = e.world) Φ ism (dm (masks (reorder l s))) (tailC P (reorder l s).toArray C' Q ((reorder l s).drop n)) ((reorder l s).take n) 0 a [] []) : (Code.region id l.toArray true).wp P Q a w := by
  have c := permB_spec hS
  refine wp_region_any hm (any_perm c _ _ (Array.replicate (reorder l s).toArray.size false) _ _ ⟨by simp, by simp [reorder_len, c.len], fun i hi => ?_⟩ ?_)
  · simp only [Array.getD_eq_getD_getElem?, Array.getElem?_replicate]
    split <;> split <;> simp
  · have e : l.toArray.size = (reorder l s).toArray.size := by simp [reorder_len, c.len]
    rw [e]
    refine any_tailC _ n C' Φ ism hB hT hC hΦ ?_
    refine walkP_cl (fun i w' hw' => ?_) _ 0 a [] [] h
    split at hw'
    · rename_i hl; rw [if_pos hl]; exact hw'
    · rename_i hl; rw [if_neg hl]; exact ⟨⟨w', hw'⟩, rfl⟩
end
theorem tailC_call {P : Program} {ops : Array Oper} {C' : World → Prop} {Q : Exit → Act → World → Prop} {o : Oper} {rest : List Oper} {a : Act} {w : World} {f : FuncId} {args : Array Value} (hw : Region.wanted o (yielded ops a.tmps) = true) (hr : (execOp a.eval o).run P w = .ok (.enter f args) w)
    (h : Calls P f args w fun e w' => ∃ v, e = .returned v ∧ C' w' ∧ tailC P ops C' Q rest (a.put o.dst v) w') : tailC P ops C' Q (o :: rest) a w :=
  ⟨hw, .inr ⟨f, args, w, hr⟩, by
    unfold Oper.wp
    rw [hr, Oper.upon_enter]
    exact h.mono fun e w' ⟨v, he, h1⟩ => by subst he; exact h1⟩
end Go.Proofs.YtfajkmmmmmfhiaaGreatDoor
