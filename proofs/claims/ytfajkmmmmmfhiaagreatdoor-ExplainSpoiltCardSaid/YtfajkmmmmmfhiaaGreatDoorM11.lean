/- My texts Ex7, Ex12, Subs, Sb19, Fw17, merged. -/
import Derived.Test.YtfajkmmmmmfhiaaGreatDoorM09
import Derived.Test.YtfajkmmmmmfhiaaGreatDoorM08
import Derived.Test.YtfajkmmmmmfhiaaGreatDoorM07
import Derived.Test.YtfajkmmmmmfhiaaGreatDoorM06
import Derived.Test.YtfajkmmmmmfhiaaGreatDoorM05
import Derived.Test.YtfajkmmmmmfhiaaGreatDoorM04
import Derived.Test.YtfajkmmmmmfhiaaGreatDoorM03
import Derived.Test.YtfajkmmmmmfhiaaGreatDoorM00
import Derived.Test.YtfajkmmmmmfhiaaGreatDoorProg
import Derived.WalkKit
import Derived.Lib.Hide
import Derived.Deep.QuietTactic
import Derived.BigQuiet
import Derived.WalkSpells
import Derived.Lib.SliceRun
import Derived.MapKept
import Derived.Maps.OwnSet
import Derived.Maps.OwnOps
import Derived.Test.YtfajkmmmmmfhiaaGreatDoorM02
import Derived.Test.YtfajkmmmmmfhiaaGreatDoorM01
import Derived.Deep.AppendLies
import Derived.Lib.Bytealg
import Derived.Deep.DeepCutAuto
import Derived.Laws.EntriesVeiled
import Derived.Deep.RegionWith
import Derived.Deep.OwnRows
import Derived.RangeFuncNested
import Derived.RangeFuncBound
import Derived.RangeFuncCalls
import Derived.RangeFuncLeaves
import Derived.OwnWalkIn
import Derived.TacticsInMore
import Derived.LoopNIn
import Derived.LoopIn
import Derived.Stop.RegionWithIn
import Derived.Shelf.Abstract
import Derived.Deep.LoopGhost
import Derived.Deep.DrawnRows
import Derived.Shelf.Sort.Plain
import Derived.Shelf.Slices.CompactI
import Derived.Shelf.Slices.In.SortNone
import Derived.Shelf.Strconv.Itoa3
import Derived.Shelf.Strings.BuilderK
import Derived.Shelf.Slices.SearchI
import Derived.Shelf.Slices.Empties
import Derived.Deep.AppendSrc
import Derived.Test.YtfajkmmmmmfhiaaGreatDoorM10

namespace Go.Proofs.YtfajkmmmmmfhiaaGreatDoor
open Go.RowKit
theorem LeftX.slen {W : World} {v : Value} {l : List Int} {lo hi : Nat} (h : LeftX W v l lo hi) : ∃ a c, v = .slice a l.length c := by
  rcases h with ⟨rfl, rfl⟩ | ⟨g, c, D, rfl, -⟩
  · exact ⟨_, _, rfl⟩
  · exact ⟨_, _, rfl⟩
theorem OwnI.left {W : World} {a : Option Addr} {n c base lo hi : Nat} {l : List Int} (h : OwnI base W (.slice a n c) l) (h1 : lo < base) (h2 : W.heap.size ≤ hi) : LeftX W (.slice a n c) l lo hi := by
  obtain ⟨⟨hrow, h8⟩, hfit⟩ := h
  rcases hrow.2 with ⟨e, h0⟩ | ⟨g, cap, cur, e, hb, hg, hn, hm, hs, hx⟩
  · exact .inl ⟨e, List.eq_nil_of_length_eq_zero h0⟩
  · refine .inr ⟨g, cap, cur.toList, e, by omega, Nat.lt_of_lt_of_le (Array.getElem?_eq_some_iff.1 hg).1 h2, by unfold Blk; simpa using hg, fun k hk => ?_, hfit, hn, by simp; omega, hm, h8⟩
    have h4 : (cur.toList.take (l.length * 1))[k]? = some (.int .i64 (ix l k)) := by rw [hx]; simp [hk]
    rw [List.getElem?_take_of_lt (by omega)] at h4
    exact h4
set_option maxHeartbeats 8000000 in
set_option maxRecDepth 100000 in
theorem explain_any (v vset : Value) (p : GP) (m : List Int) (w : World) (h : ProgIs w v p) (hm : Ints w vset m) :
    Calls Tryz.prog 14 #[v, vset] w fun e w' => ∃ vx, e = .returned (.tuple #[vx, .int .i64 (xE p m)]) ∧ ExplQ (w.heap.size + 2) w' vx (if xE p m = 0 then explX p m else ⟨[], []⟩) ∧ Below w.heap.size w w' := by
  have h0 := h
  obtain ⟨vn, vs, vr, vm, rfl, hps⟩ := h
  obtain ⟨a1, c1, rfl, -, hl1, -, -⟩ := hps.rules.form
  obtain ⟨am, cm, rfl, -⟩ := id hm.form
  have hal := bal (bal (Below.refl w.heap.size w) (.cells #[.int .i64 p.n, vn, vs, .slice a1 p.rules.length c1, vm] 27)) (.cells #[.slice none 0 0, .slice none 0 0] 30)
  have HBX : Hid (Blk ((w.alloc (.cells #[.int .i64 p.n, vn, vs, .slice a1 p.rules.length c1, vm] 27)).alloc (.cells #[.slice none 0 0, .slice none 0 0] 30)) w.heap.size [.int .i64 p.n, vn, vs, .slice a1 p.rules.length c1, vm] 27) := Lib.hid ((Blk.new w [.int .i64 p.n, vn, vs, .slice a1 p.rules.length c1, vm] _).alloc _)
  have HRX : Hid (Blk ((w.alloc (.cells #[.int .i64 p.n, vn, vs, .slice a1 p.rules.length c1, vm] 27)).alloc (.cells #[.slice none 0 0, .slice none 0 0] 30)) (w.heap.size + 1) [.slice none 0 0, .slice none 0 0] 30) := Lib.hid (Blk.new2 w _ [.slice none 0 0, .slice none 0 0] _)
  have HP := Lib.hid (h0.below hal)
  have HP0 := Lib.hid h0
  have HM0 := Lib.hid hm
  have HM := Lib.hid (hm.below hal)
  have HAL := Lib.hid hal
  clear h0 hps hm hal
  go_enter Tryz.func14, Tryz.ntmps14
  go_upto_region 1 with fail
  have kx := HBX.out.cell
  have kr := HRX.out.cell
  have hz0 : ((w.alloc (.cells #[.int .i64 p.n, vn, vs, .slice a1 p.rules.length c1, vm] 27)).alloc (.cells #[.slice none 0 0, .slice none 0 0] 30)).heap.size = w.heap.size + 2 := by simp
  have HZ0 := Lib.hid hz0
  clear hz0
  generalize (w.alloc (.cells #[.int .i64 p.n, vn, vs, .slice a1 p.rules.length c1, vm] 27)).alloc (.cells #[.slice none 0 0, .slice none 0 0] 30) = W0 at *
  by_cases he : xE p m = 0
  case neg =>
    have hne : (xE p m != 0) = true := by simp [he]
    have hne2 : (xE p m == 0) = false := by simp [he]
    have HE := Lib.hid he
    clear he
    go_wp2_with (go_at_call 49; (with_reducible refine (xcheck_any _ _ p m _ HP.out HM.out).mono ?_); rintro e w1 ⟨rfl, hb1⟩; have HR1 := Lib.hid (HRX.out.below hb1); have kr1 := HR1.out.cell; have fr1 := HR1.out.free; have HB1 := Lib.hid (bon HAL.out hb1); clear hb1)
    have hR9 := (HR1.out.set 0 (.slice none 0 0)).set 1 (.slice none 0 0)
    simp only [List.set_cons_zero, List.set_cons_succ] at hR9
    have kr9 := hR9.cell
    have hB9 := (HB1.out.setCell (p := ⟨w.heap.size + 1, 0, none⟩) (by show w.heap.size ≤ w.heap.size + 1; omega) (.slice none 0 0)).setCell (p := ⟨w.heap.size + 1, 1, none⟩) (by show w.heap.size ≤ w.heap.size + 1; omega) (.slice none 0 0)
    generalize (w1.setCell ⟨w.heap.size + 1, 0, none⟩ (.slice none 0 0)).setCell ⟨w.heap.size + 1, 1, none⟩ (.slice none 0 0) = W9 at *
    refine bodyPost_ret (v := .tuple #[.agg #[.slice none 0 0, .slice none 0 0], .int .i64 (xE p m)]) ?_ rfl ⟨_, rfl, ?_, hB9⟩
    · simp [results, Tryz.f14, go_sem, kr9]
    · exact ⟨_, _, rfl, MineY.nil _ _, QRow.nil _ _⟩
  obtain ⟨hv, hset, -⟩ := xE_ok he
  have hn0 := (validP hv).n
  obtain ⟨N, hN⟩ : ∃ N : Nat, p.n = N := ⟨p.n.toNat, by omega⟩
  have hN4 : N ≤ 4000 := by omega
  have hmr : ∀ x ∈ m, 1 ≤ x ∧ x ≤ (N : Int) := fun x hx => by have := setQ_rng hset hx; omega
  have hsrt := setQ_sorted hset
  have hnd : m.Nodup := hsrt.imp fun h => Int.ne_of_lt h
  have hml : m.length ≤ 4000 := by have := inc_le hset hn0.1; omega
  have hmk : ∀ w : World, (Instr.makeSlice 23 (.int .i64 ((N : Int) + 1)) (.int .i64 ((N : Int) + 1))).run Tryz.prog w = .ok (.slice (some ⟨w.heap.size, 0, none⟩) (N + 1) (N + 1)) (w.alloc (.cells (madeCells #[.int .i64 0] (N + 1)) 3)) := fun w => run_make_row' _ _ _ _ Tryz.underlying23 infoI rfl .i64 .i64 (N + 1) (by omega) (by omega) w
  have HE := Lib.hid he
  have HV := Lib.hid hv
  have HN := Lib.hid hN
  have HMR := Lib.hid hmr
  have HSRT := Lib.hid hsrt
  have HND := Lib.hid hnd
  clear he hv hset hn0 hN hmr hsrt hnd
  go_upto_region 5 with (go_at_call 49; (with_reducible refine (xcheck_any _ _ p m _ HP.out HM.out).mono ?_); rintro e w1 ⟨e1, hb1⟩; rw [HE.out] at e1; subst e1; have HR1 := Lib.hid (HRX.out.below hb1); have HX1 := Lib.hid (HBX.out.below hb1); have HB1 := Lib.hid (bon HAL.out hb1); have HP1 := Lib.hid (HP.out.below hb1); have HM1 := Lib.hid (HM.out.below hb1); have hz1 := hb1.size; clear hb1)
  have kx1 := (HX1.out.alloc (.cells #[.slice none 0 0, .slice none 0 0] 30)).cell
  rw [HN.out] at kx1
  go_upto_region 6 with fail
  have hal5 := bal (bal (bal (Below.refl w1.heap.size w1) (.cells #[.slice none 0 0, .slice none 0 0] 30)) (.cells (madeCells #[.int .i64 0] (N + 1)) 3)) (.cells #[.slice (some ⟨w1.heap.size + 1, 0, none⟩) (N + 1) (N + 1)] 23)
  have ho5 : Blk (((w1.alloc (.cells #[.slice none 0 0, .slice none 0 0] 30)).alloc (.cells (madeCells #[.int .i64 0] (N + 1)) 3)).alloc (.cells #[.slice (some ⟨w1.heap.size + 1, 0, none⟩) (N + 1) (N + 1)] 23)) w1.heap.size [.slice none 0 0, .slice none 0 0] 30 := ((Blk.new w1 [.slice none 0 0, .slice none 0 0] _).alloc _).alloc _
  have hl5 : Blk (((w1.alloc (.cells #[.slice none 0 0, .slice none 0 0] 30)).alloc (.cells (madeCells #[.int .i64 0] (N + 1)) 3)).alloc (.cells #[.slice (some ⟨w1.heap.size + 1, 0, none⟩) (N + 1) (N + 1)] 23)) (w1.heap.size + 1) ((lvL N []).map (Value.int .i64)) 3 := by
    have := (Blk.new2 w1 (.cells #[.slice none 0 0, .slice none 0 0] 30) (List.replicate (N + 1) (Value.int .i64 0)) 3).alloc (.cells #[.slice (some ⟨w1.heap.size + 1, 0, none⟩) (N + 1) (N + 1)] 23)
    rw [← made_list] at this
    have e : (lvL N []).map (Value.int .i64) = List.replicate (N + 1) (Value.int .i64 0) := by
      apply List.ext_getElem (by simp [lvL])
      intro i h1 h2
      simp [lvL, lvF_nil]
    rw [e]; exact this
  have hb5 : Blk (((w1.alloc (.cells #[.slice none 0 0, .slice none 0 0] 30)).alloc (.cells (madeCells #[.int .i64 0] (N + 1)) 3)).alloc (.cells #[.slice (some ⟨w1.heap.size + 1, 0, none⟩) (N + 1) (N + 1)] 23)) (w1.heap.size + 1 + 1) [.slice (some ⟨w1.heap.size + 1, 0, none⟩) (N + 1) (N + 1)] 23 := Blk.newAt _ _ _ (by simp)
  have hz5 : (((w1.alloc (.cells #[.slice none 0 0, .slice none 0 0] 30)).alloc (.cells (madeCells #[.int .i64 0] (N + 1)) 3)).alloc (.cells #[.slice (some ⟨w1.heap.size + 1, 0, none⟩) (N + 1) (N + 1)] 23)).heap.size = w1.heap.size + 3 := by simp
  have HAL5 := Lib.hid hal5
  have HO5 := Lib.hid ho5
  have HL5 := Lib.hid hl5
  have HB5 := Lib.hid hb5
  have HM5 := Lib.hid (HM1.out.below hal5)
  have kb5 := hb5.cell 0
  have HZ5 := Lib.hid hz5
  clear hal5 ho5 hl5 hb5 hmk kx1 hz5
  generalize ((w1.alloc (.cells #[.slice none 0 0, .slice none 0 0] 30)).alloc (.cells (madeCells #[.int .i64 0] (N + 1)) 3)).alloc (.cells #[.slice (some ⟨w1.heap.size + 1, 0, none⟩) (N + 1) (N + 1)] 23) = W5 at *
  go_upto_region 7 with (go_at_call 50; (with_reducible refine (deriver_any _ _ m W5 HM5.out ⟨_, _, _, rfl⟩).mono ?_); rintro e w6 ⟨rfl, hi6, hm6, hl6, hb6⟩; have HI6 := Lib.hid hi6; have HQ6 := Lib.hid hm6; have HL6 := Lib.hid hl6; have HB6 := Lib.hid hb6; have hz6 := hb6.size; clear hi6 hm6 hl6 hb6)
  have hal7 := bal (Below.refl w6.heap.size w6) (.cells #[.func (.func 106) #[] #[.pointer (some ⟨W5.heap.size + 2, 0, none⟩), .pointer (some ⟨W5.heap.size + 1, 0, none⟩)]] 86)
  have HF7 := Lib.hid (Blk.new w6 [.func (.func 106) #[] #[.pointer (some ⟨W5.heap.size + 2, 0, none⟩), .pointer (some ⟨W5.heap.size + 1, 0, none⟩)]] 86)
  have hz7 : (w6.alloc (.cells #[.func (.func 106) #[] #[.pointer (some ⟨W5.heap.size + 2, 0, none⟩), .pointer (some ⟨W5.heap.size + 1, 0, none⟩)]] 86)).heap.size = w6.heap.size + 1 := by simp
  have HZ7 := Lib.hid hz7
  have HB7 := Lib.hid (bon HB6.out hal7)
  have HI7 := Lib.hid (HI6.out.below hal7)
  have HQ7 := Lib.hid (HQ6.out.below hal7)
  have HL7 := Lib.hid (HL6.out.below hal7)
  have HM7 := Lib.hid (HM5.out.below (bon HB6.out hal7))
  clear hal7 hz7
  generalize w6.alloc (.cells #[.func (.func 106) #[] #[.pointer (some ⟨W5.heap.size + 2, 0, none⟩), .pointer (some ⟨W5.heap.size + 1, 0, none⟩)]] 86) = W7 at *
  go_upto_region 8 with (go_at_call 51; (with_reducible refine (cloneI_sl _ m W7 HM7.out).mono ?_); rintro e w8 ⟨a8, c8, rfl, ho8, hb8⟩; have HO8 := Lib.hid ho8; have HB8 := Lib.hid hb8; have hz8 := hb8.size; clear ho8 hb8)
  have hst : XpSt w (.slice am m.length cm) p N vn vs (.slice a1 p.rules.length c1) vm w1.heap.size (w1.heap.size + 1) (w1.heap.size + 1 + 1) w6.heap.size (W5.heap.size + 2) W5.heap.size (W5.heap.size + 1) (w8.heap.size + 1) 1 w8.heap.size [] [] (leftX m []) (.slice a8 m.length c8) (w8.alloc (.cells #[.int .i64 1] 3)) := by
    have hz5 := HZ5.out
    have hz7 := HZ7.out
    have hz0 := HZ0.out
    have b18 : Below w1.heap.size w1 w8 := bon (bon HAL5.out HB7.out) HB8.out
    have b58 : Below W5.heap.size W5 w8 := bon HB7.out HB8.out
    have hx := HX1.out.below b18
    rw [HN.out] at hx
    refine ⟨hx.alloc _, (HR1.out.below b18).alloc _, ⟨_, (HO5.out.below b58).alloc _, MineY.nil _ _⟩, (HL5.out.below b58).alloc _, (HB5.out.below b58).alloc _, (HF7.out.below HB8.out).alloc _, (HI7.out.below HB8.out).alloc _, (HQ7.out.below HB8.out).alloc _, (HL7.out.below HB8.out).alloc _, Blk.new w8 [.int .i64 1] _, ?_, bal (bon HB1.out b18) _, by omega, by simp⟩
    rw [leftX_nil]
    exact (HO8.out.left (by omega) (Nat.le_refl _)).below (bal (Below.refl _ _) _)
  have HS9 := Lib.hid hst
  have hord := hst.ord
  clear hst HX1 HR1 HO5 HL5 HB5 HF7 HI7 HQ7 HL7 HO8 HB8 HB7 HM5 HM7 HAL5 HI6 HQ6 HL6 HB6 kb5 kx kr HBX HRX HM HP HP1 HM1 HB1 HAL
  go_wp2
  generalize w8.alloc (.cells #[.int .i64 1] 3) = W9 at *
  generalize w8.heap.size = kb0 at *
  generalize W5.heap.size = z5 at *
  generalize w6.heap.size = bd at *
  generalize w1.heap.size = bo at *
  go_loopw [10, 11] (fun vl vk wx => Ex1Rel w (.slice am m.length cm) p m N vn vs (.slice a1 p.rules.length c1) vm bo (bo + 1) (bo + 1 + 1) bd (z5 + 2) z5 (z5 + 1) (kb0 + 1) vl vk wx) (fun vl _ _ => lenOf vl)
  case atStart => exact ⟨1, [], kb0, rfl, RndX.start p m, by simp, fun _ h => absurd h List.not_mem_nil, HS9.out⟩
  case round =>
    obtain ⟨k, ws, kb, rfl, hR, hkw, hyi, hst⟩ := hrel
    obtain ⟨al, cl, rfl⟩ := hst.lft.slen
    have hwl := hR.size HND.out
    have hk1 := hR.pos
    have HRD := Lib.hid hR
    have HS := Lib.hid hst
    have HYI := Lib.hid hyi
    have HYL : Hid (∀ y ∈ ws, InI y.level) := Lib.hid fun y hy => (hyi y hy).2.2
    have kpr := hst.pbx.cell
    have hll : (leftX m ws).length ≤ 4000 := Nat.le_trans (List.length_filter_le _ _) hml
    obtain ⟨w2r, rfl⟩ : ∃ x : World, x = wr := ⟨_, rfl⟩
    have hB2 := hst.below.size
    clear hR hyi hst
    go_wp2
    go_loopw [12, 38] (fun vnow i wx => Ex2Rel p m (doneX m ws) k (leftX m ws) w2r vnow i wx) (fun _ i _ => (leftX m ws).length - (intOf i).toNat)
    case atStart => exact ⟨0, Nat.zero_le _, rfl, MineY.nil _ _, Below.refl _ _⟩
    case round =>
      obtain ⟨j, hj, rfl, hmy, hbl⟩ := hrel
      obtain ⟨an, cn, rfl⟩ := hmy.slen
      have HMY := Lib.hid hmy
      have HBL := Lib.hid hbl
      have HS2 := Lib.hid (HS.out.on hbl)
      have hszr := hbl.size
      have hnl : (nowX p m (doneX m ws) k ((leftX m ws).take j)).length ≤ j := by
        have := List.length_filterMap_le (fun a => (firR p m (doneX m ws) a).map fun (i : Nat) => (⟨a, i, (k : Int)⟩ : WY)) ((leftX m ws).take j)
        unfold nowX
        rw [List.length_take] at this
        omega
      clear hmy hbl
      by_cases hlt : j < (leftX m ws).length
      · obtain ⟨b, off, rfl, hb, hc⟩ := HS2.out.lft.ints.at hlt
        obtain ⟨a, ha⟩ : ∃ a, ix (leftX m ws) j = a := ⟨_, rfl⟩
        have ham : a ∈ m := by rw [← ha]; exact (List.mem_filter.1 (ix_mem hlt)).1
        have haN := HMR.out a ham
        have hnx := nowX_take (p := p) (m := m) (T := doneX m ws) (k := k) hlt
        rw [ha] at hc hnx
        have HNX := Lib.hid hnx
        clear ha ham hnx
        go_upto_region 14 with fail
        have hal3 := bal (Below.refl wr.heap.size wr) (.cells #[.int .i64 a] 3)
        have HS3 := Lib.hid (HS2.out.on hal3)
        have HA3 := Lib.hid (Blk.new wr [.int .i64 a] 3)
        have HMY3 := Lib.hid (HMY.out.below hal3)
        have HBL3 := Lib.hid (bon HBL.out hal3)
        have kp3 := HS3.out.pbx.cell
        clear hal3 hc hb
        generalize wr.alloc (.cells #[.int .i64 a] 3) = W3 at *
        generalize wr.heap.size = ab at *
        go_upto_region 15 with (go_at_call 52; (with_reducible refine (idxR_dv HRD.out HV.out HMR.out (by omega) hN4 HYL.out (HS3.out.dv HM0.out HSRT.out HYL.out hN4) HA3.out HS3.out.kbx (ProgIs.rulesOf (HP0.out.below HS3.out.below))).mono ?_); rintro e w4 ⟨r, rfl, hr, hb4⟩; have HRR := Lib.hid hr; have HS4 := Lib.hid (HS3.out.on hb4); have ka4 := (HA3.out.below hb4).cell 0; have kk4 := HS4.out.kbx.cell 0; have HMY4 := Lib.hid (HMY3.out.below hb4); have HB4 := Lib.hid (bon HBL3.out hb4); clear hr hb4)
        rcases HRR.out with ⟨rfl, hf⟩ | ⟨i, rfl, hi, hf⟩
        · rw [hf] at HNX
          have HNX2 : Hid (nowX p m (doneX m ws) k ((leftX m ws).take (j + 1)) = nowX p m (doneX m ws) k ((leftX m ws).take j)) := Lib.hid (by rw [HNX.out, List.append_nil])
          clear hf
          go_wp2_with fail
          first
            | (go_roundw
               case rel => (exact ⟨j + 1, hlt, by go_num, by rw [HNX2.out]; exact HMY4.out, HB4.out⟩)
               case measure => (simp [intOf]; omega))
            | (refine ⟨?_, ?_⟩
               · (exact ⟨j + 1, hlt, by go_num, by rw [HNX2.out]; exact HMY4.out, HB4.out⟩)
               · (simp [intOf]; omega))
        · rw [hf] at HNX
          have HNX2 : Hid (nowX p m (doneX m ws) k ((leftX m ws).take (j + 1)) = nowX p m (doneX m ws) k ((leftX m ws).take j) ++ [⟨a, i, k⟩]) := Lib.hid HNX.out
          have hyy : YI ⟨a, i, k⟩ := ⟨by unfold InI; dsimp only; omega, by unfold InI; dsimp only; omega, by unfold InI; dsimp only; omega⟩
          have HYY := Lib.hid hyy
          have HLN : Hid ((nowX p m (doneX m ws) k ((leftX m ws).take j)).length + 1 = (nowX p m (doneX m ws) k ((leftX m ws).take (j + 1))).length) := Lib.hid (by rw [HNX2.out]; simp)
          have hz4 := HB4.out.size
          clear hf hyy
          go_wp2_with (at_builtin; refine wpList_appendY rfl _ _ rfl w2r.heap.size w4.heap.size _ _ (nowX p m (doneX m ws) k ((leftX m ws).take j)) [⟨a, i, k⟩] rfl rfl (HMY4.out.below (bal (Below.refl _ _) _)) (MineY.one w4 HYY.out) (by simp) (by simp; omega) (by simp; omega) ?_; intro g cap w5 hm5 hg5; have HB5 : Hid (Below w2r.heap.size w2r w5) := Lib.hid (belowY (bal HB4.out _) (HMY4.out.below (bal (Below.refl _ _) _)) hg5 (by simp; omega)); have HM5 := Lib.hid hm5; clear hm5 hg5)
          first
            | (go_roundw
               case rel => (exact ⟨j + 1, hlt, by go_num, by rw [HNX2.out]; exact HM5.out, HB5.out⟩)
               case measure => (simp [intOf]; omega))
            | (refine ⟨?_, ?_⟩
               · (exact ⟨j + 1, hlt, by go_num, by rw [HNX2.out]; exact HM5.out, HB5.out⟩)
               · (simp [intOf]; omega))
      · obtain rfl : j = (leftX m ws).length := by omega
        rw [List.take_length] at HMY hnl
        obtain ⟨now, hnow⟩ : ∃ now, nowX p m (doneX m ws) k (leftX m ws) = now := ⟨_, rfl⟩
        have HNW := Lib.hid hnow
        rw [List.take_length]
        rw [hnow] at HMY hnl ⊢
        by_cases hne : now = []
        · have HD : Hid (explX p m = ⟨ws, leftX m ws⟩) := Lib.hid (HRD.out.done (hnow.trans hne))
          subst hne
          obtain ⟨vw, ho, hmw⟩ := HS2.out.out
          obtain ⟨aw, cw, rfl⟩ := hmw.slen
          have ko := ho.cell
          have fo := ho.free
          have kres := HS2.out.res.cell
          have fres := HS2.out.res.free
          have HO := Lib.hid ho
          have HMW := Lib.hid hmw
          clear hnow ho hmw hnl
          simp only [List.length_nil]
          go_wp2_with fail
          have hord2 := HS2.out.ord
          have hres := ((HS2.out.res.setOther (b' := bo) 1 (.slice al (leftX m ws).length cl) (by omega)).set 0 (.slice aw ws.length cw)).set 1 (.slice al (leftX m ws).length cl)
          simp only [List.set_cons_zero, List.set_cons_succ] at hres
          have hsame : ∀ i, i ≠ bo → i ≠ w.heap.size + 1 → (((wr.setCell ⟨bo, 1, none⟩ (.slice al (leftX m ws).length cl)).setCell ⟨w.heap.size + 1, 0, none⟩ (.slice aw ws.length cw)).setCell ⟨w.heap.size + 1, 1, none⟩ (.slice al (leftX m ws).length cl)).heap[i]? = wr.heap[i]? := fun i h1 h2 => (Below.heap_setCell _ _ _ _ h2).trans ((Below.heap_setCell _ _ _ _ h2).trans (Below.heap_setCell _ _ _ _ h1))
          have hbel := ((HS2.out.below.setCell (p := ⟨bo, 1, none⟩) (by show w.heap.size ≤ bo; omega) (.slice al (leftX m ws).length cl)).setCell (p := ⟨w.heap.size + 1, 0, none⟩) (by show w.heap.size ≤ w.heap.size + 1; omega) (.slice aw ws.length cw)).setCell (p := ⟨w.heap.size + 1, 1, none⟩) (by show w.heap.size ≤ w.heap.size + 1; omega) (.slice al (leftX m ws).length cl)
          have kr9 := hres.cell
          rw [HD.out]
          generalize ((wr.setCell ⟨bo, 1, none⟩ (.slice al (leftX m ws).length cl)).setCell ⟨w.heap.size + 1, 0, none⟩ (.slice aw ws.length cw)).setCell ⟨w.heap.size + 1, 1, none⟩ (.slice al (leftX m ws).length cl) = W9 at *
          refine bodyPost_ret (v := .tuple #[.agg #[.slice aw ws.length cw, .slice al (leftX m ws).length cl], .int .i64 0]) ?_ rfl ⟨_, rfl, ?_, hbel⟩
          · simp [results, Tryz.f14, go_sem, kr9]
          · exact ⟨_, _, rfl, (HMW.out.same fun i h1 _ e => hsame i (fun e2 => HMW.out.far HO.out (by decide) (e2 ▸ e)) (by omega)).mono (by omega), (HS2.out.lft.same fun g h1 h2 => hsame g (by omega) (by omega)).row (by omega)⟩
        · have hn0 : 0 < now.length := List.length_pos_iff.2 hne
          have hny : ∀ y ∈ now, y.atom ∈ leftX m ws ∧ y.level = k := fun y hy => by
            rw [← hnow] at hy
            exact ⟨(nowX_mem hy).1, (nowX_mem hy).2.1⟩
          have HNY := Lib.hid hny
          have HNE : Hid (nowX p m (doneX m ws) k (leftX m ws) ≠ []) := Lib.hid (by rw [hnow]; exact hne)
          clear hnow hne hny
          obtain ⟨w3r, rfl⟩ : ∃ x : World, x = wr := ⟨_, rfl⟩
          go_wp2
          go_loopw [64] (fun i wx => Ex3Rel N ws now (bo + 1) w3r i wx) (fun i _ => now.length - (intOf i).toNat)
          case atStart => exact ⟨0, Nat.zero_le _, rfl, by rw [List.take_zero, List.append_nil]; exact HS2.out.lvd, Lim.refl _ _ _⟩
          case round =>
            obtain ⟨j, hj, rfl, hld, hlim⟩ := hrel
            have hmr : MineY w2r.heap.size (.slice an now.length cn) now wr := HMY.out.same fun i _ hi e => hlim.block i hi (by
              have := HMY.out.far HS2.out.lvd (by decide)
              rw [e] at this
              simpa using this)
            have HSL := Lib.hid (HS2.out.lev hlim hld)
            have HLD := Lib.hid hld
            have HLM := Lib.hid hlim
            have HMR3 := Lib.hid hmr
            have hz3 := hlim.size
            clear hld hlim hmr
            by_cases hlt : j < now.length
            · obtain ⟨b, off, rfl, hb, hc0, hc1, hc2⟩ := HMR3.out.at (by omega) hlt
              obtain ⟨y, hy⟩ : ∃ y, ixY now j = y := ⟨_, rfl⟩
              have hym : y ∈ now := by rw [← hy]; exact ixY_mem0 hlt
              obtain ⟨hy1, hy2⟩ := HNY.out y hym
              have hyN := HMR.out _ (List.mem_filter.1 hy1).1
              have htk : now.take (j + 1) = now.take j ++ [y] := by
                rw [List.take_succ_eq_append_getElem hlt, ← hy]
                simp only [ixY, List.getD_eq_getElem?_getD, List.getElem?_eq_getElem hlt, Option.getD_some]
              have hset := lvL_set (N := N) (ws := ws ++ now.take j) (y := y) (j := y.atom.toNat) (by omega)
              rw [hy2, List.append_assoc, ← htk] at hset
              have HSET := Lib.hid hset
              rw [hy] at hc0 hc1 hc2
              clear hy hym hy1 hy2 htk hset
              go_upto_region 24 with fail
              have hal4 := bal (Below.refl wr.heap.size wr) (.cells #[.int .i64 y.atom, .int .i64 y.rule, .int .i64 y.level] 49)
              have HS4 := Lib.hid (HSL.out.on hal4)
              have HW4 := Lib.hid (Blk.new wr [.int .i64 y.atom, .int .i64 y.rule, .int .i64 y.level] 49)
              have HL4 := Lib.hid (HLD.out.below hal4)
              have HLM4 := Lib.hid (HLM.out.trans (.of_below hal4 hz3))
              have kw4 := HW4.out.cell
              have kl4 := HS4.out.lvb.cell 0
              have kk4 := HS4.out.kbx.cell 0
              have ka4 : (wr.alloc (.cells #[.int .i64 y.atom, .int .i64 y.rule, .int .i64 y.level] 49)).cell? ⟨bo + 1, y.atom.toNat, none⟩ = some (.int .i64 (ix (lvL N (ws ++ now.take j)) y.atom.toNat)) := (HL4.out.cell _).trans (map_ix _ _ (by rw [lvL_len]; omega))
              have kf4 := HL4.out.free y.atom.toNat
              clear hal4 hc0 hc1 hc2
              generalize wr.alloc (.cells #[.int .i64 y.atom, .int .i64 y.rule, .int .i64 y.level] 49) = W4 at *
              go_wp2_with fail
              have hnew : Blk (W4.setCell ⟨bo + 1, y.atom.toNat, none⟩ (.int .i64 (k : Int))) (bo + 1) ((lvL N (ws ++ now.take (j + 1))).map (Value.int .i64)) 3 := by
                have := HL4.out.set y.atom.toNat (.int .i64 (k : Int))
                rw [mapI_setL, HSET.out] at this
                exact this
              have HNEW := Lib.hid hnew
              clear hnew
              first
                | (go_roundw
                   case rel => (exact ⟨j + 1, hlt, by go_num, HNEW.out, HLM4.out.trans (.setCell _ (.inl (by simp)))⟩)
                   case measure => (simp [intOf]; omega))
                | (refine ⟨?_, ?_⟩
                   · (exact ⟨j + 1, hlt, by go_num, HNEW.out, HLM4.out.trans (.setCell _ (.inl (by simp)))⟩)
                   · (simp [intOf]; omega))
            · obtain rfl : j = now.length := by omega
              rw [List.take_length] at HSL HLD
              obtain ⟨vw, ho, hmw⟩ := HSL.out.out
              obtain ⟨aw, cw, rfl⟩ := hmw.slen
              have hlw : ws.length + now.length ≤ 1000000000 := by omega
              have ko := ho.cell 0
              have hord2 := HSL.out.ord
              have HO := Lib.hid ho
              have HMW := Lib.hid hmw
              have hBw := HSL.out.bw
              clear ho hmw
              go_upto_region 27 with (at_builtin; refine wpList_appendY rfl _ _ rfl (kb0 + 1) w2r.heap.size _ _ ws now rfl rfl HMW.out HMR3.out hn0 hlw hBw ?_; intro g cap w5 hm5 hg5; have HP5 := Lib.hid (HSL.out.push HO.out HMW.out hg5 (ws := ws ++ now) (by simpa using hm5)); have ko5 := (HO.out.same (hg5.block bo HO.out.lt fun e => HMW.out.far HO.out (by decide) e.symm)).cell 0; have fo5 := (HO.out.same (hg5.block bo HO.out.lt fun e => HMW.out.far HO.out (by decide) e.symm)).free 0; clear hm5 hg5)
              have HST5 : Hid (XpSt w (.slice am m.length cm) p N vn vs (.slice a1 p.rules.length c1) vm bo (bo + 1) (bo + 1 + 1) bd (z5 + 2) z5 (z5 + 1) (kb0 + 1) k kb (ws ++ now) (ws ++ now) (leftX m ws) (.slice al (leftX m ws).length cl) (w5.setCell ⟨bo, 0, none⟩ (.slice (some ⟨g, 0, none⟩) (ws.length + now.length) cap))) := HP5
              have hly : ∀ y ∈ ws ++ now, 1 ≤ y.level ∧ InI y.level := fun y hy => by
                rcases List.mem_append.1 hy with hy | hy
                · exact ⟨(HRD.out.lev y hy).1, HYL.out y hy⟩
                · exact ⟨by rw [(HNY.out y hy).2]; omega, (HMR3.out.2 y hy).2.2⟩
              have HLY := Lib.hid hly
              generalize w5.setCell ⟨bo, 0, none⟩ (.slice (some ⟨g, 0, none⟩) (ws.length + now.length) cap) = W6 at *
              have hleft : leftX m ws ≠ [] := fun e => by
                obtain ⟨y, hy⟩ := List.exists_mem_of_length_pos hn0
                have := (HNY.out y hy).1
                rw [e] at this; cases this
              rcases HST5.out.lft with ⟨-, h9⟩ | ⟨gl, cl9, D, e9, hlo, hhi, hD, hDc, hDf, hDn, hDl, hDm, hD8⟩
              · exact absurd h9 hleft
              simp only [Value.slice.injEq, true_and] at e9
              obtain ⟨rfl, rfl⟩ := e9
              have HD9 := Lib.hid hD
              have HDC := Lib.hid hDc
              have HDF := Lib.hid hDf
              have HSUB : Hid (∀ x ∈ leftX m ws, x ∈ m) := Lib.hid fun x hx => (List.mem_filter.1 hx).1
              have hgb : bo + 1 + 1 ≠ gl := HST5.out.lvb.tyNe2 hD (by decide)
              clear hD hDc hDf hly ko5 fo5 ko HP5
              go_upto_region 28 with (go_at_call 54; (with_reducible refine (ex2_del HMR.out hN4 HLY.out HSUB.out HD9.out HDC.out HDF.out ⟨hDn, hDl, hDm⟩ hD8 HST5.out.lvb HST5.out.lvd (Nat.ne_of_lt hlo) hgb).mono ?_); rintro e w7 ⟨e7, ⟨D', hD', hlen7, hc7, hf7⟩, hl7⟩; rw [leftX_all] at e7 hc7 hf7; subst e7; have HD7 := Lib.hid hD'; have HC7 := Lib.hid hc7; have HF7 := Lib.hid hf7; have HL7 := Lib.hid hl7; clear hD' hc7 hf7 hl7)
              have HLT : Hid ((leftX m (ws ++ now)).length < (leftX m ws).length) := Lib.hid (by have := leftX_lt HNE.out; rw [HNW.out] at this; exact this)
              have hlt7 := HLT.out
              have HS7 := Lib.hid (HST5.out.strike rfl hlo hhi HD9.out HL7.out HD7.out hlen7 HC7.out HF7.out (by omega) (by omega))
              have kk7 := HS7.out.kbx.cell 0
              have HS8 := Lib.hid HS7.out.next
              go_wp2_with fail
              have HRN : Hid (RndX p m (k + 1) (ws ++ now)) := Lib.hid (by have := HRD.out.next HND.out HNE.out; rw [HNW.out] at this; exact this)
              have HYN : Hid (∀ y ∈ ws ++ now, YI y) := Lib.hid fun y hy => (List.mem_append.1 hy).elim (HYI.out y) (HMR3.out.2 y)
              have hkk : k + 1 ≤ (ws ++ now).length + 1 := by rw [List.length_append]; omega
              first
                | (go_roundw
                   case rel => (exact ⟨k + 1, ws ++ now, w7.heap.size, rfl, HRN.out, hkk, HYN.out, HS8.out⟩)
                   case measure => (simp only [lenOf]; omega))
                | (refine ⟨?_, ?_⟩
                   · (exact ⟨k + 1, ws ++ now, w7.heap.size, rfl, HRN.out, hkk, HYN.out, HS8.out⟩)
                   · (simp only [lenOf]; omega))
theorem blkB_rule (r : GR) (m : List Int) (i : Int) : blkB r m i = ⟨i, (blkB r m 0).kind, (blkB r m 0).lit⟩ := by
  unfold blkB
  split
  · split <;> rfl
  · split <;> rfl
theorem blkB_fit {r : GR} {m : List Int} {i : Int} (hh : Fits r.head) (hb : Fits r.body) (hi : InI i) : BI (blkB r m i) := by
  have h0 : InI 0 := by unfold InI; omega
  unfold blkB
  split
  · split
    · exact ⟨hi, by dsimp only; omega, h0⟩
    · exact ⟨hi, by dsimp only; omega, hb _⟩
  · split
    · exact ⟨hi, by dsimp only; omega, h0⟩
    · exact ⟨hi, by dsimp only; omega, hh _⟩
theorem blksTo_len (p : GP) (m : List Int) (a : Int) : ∀ k, (blksTo p m a k).length ≤ k
  | 0 => by simp [blksTo]
  | k + 1 => by
    have := blksTo_len p m a k
    unfold blksTo
    split
    · rw [List.length_append, List.length_singleton]; omega
    · omega
structure BlSt (w : World) (vset : Value) (p : GP) (m : List Int) (n vn vs vr vm : Value) (W : World) : Prop where
  pbx : Blk W w.heap.size [n, vn, vs, vr, vm] 27
  rul : RulesIs W vr p.rules
  set : Ints W vset m
  below : Below w.heap.size w W
theorem BlSt.on {w W W' : World} {vset : Value} {p : GP} {m : List Int} {n vn vs vr vm : Value} (h : BlSt w vset p m n vn vs vr vm W) (hb : Below W.heap.size W W') : BlSt w vset p m n vn vs vr vm W' :=
  ⟨h.pbx.below hb, h.rul.below hb, h.set.below hb, bon h.below hb⟩
def BlRel (p : GP) (m : List Int) (a : Int) (W1 : World) (vo i : Value) (wx : World) : Prop :=
  ∃ k : Nat, k ≤ p.rules.length ∧ i = .int .i64 k ∧ MineK W1.heap.size vo (blksTo p m a k) wx ∧ Below W1.heap.size W1 wx
theorem belowK2 {B : Nat} {v : Value} {L : List BK} {W w w' : World} (h : Below B W w) (hm : MineK B v L w) (hg : w.grownBy w' v.ownBlock) (hB : B ≤ w.heap.size) : Below B W w' :=
  h.trans ⟨hg.os, hg.tape, hg.output, hg.size, fun i hi => hg.block i (by omega) fun e => by have := (hm.lt e.symm).1; omega⟩
set_option maxHeartbeats 4000000 in
set_option maxRecDepth 100000 in
theorem blocks_any (v vset : Value) (p : GP) (m : List Int) (a : Int) (w : World) (h : ProgIs w v p) (hm : Ints w vset m) :
    Calls Tryz.prog 17 #[v, vset, .int .i64 a] w fun e w' => ∃ vo, e = .returned (.tuple #[vo, .int .i64 (blksX p m a).2]) ∧ MineK (w.heap.size + 1) vo (blksX p m a).1 w' ∧ Below w.heap.size w w' := by
  have hP0 := h
  obtain ⟨vn, vs, vr, vm, rfl, hps⟩ := h
  obtain ⟨am, cm, rfl, -⟩ := id hm.form
  obtain ⟨a1, c1, rfl, -, hl1, -, -⟩ := hps.rules.form
  have hpn := hps.n
  unfold InI at hpn
  have hal := bal (Below.refl w.heap.size w) (.cells #[.int .i64 p.n, vn, vs, .slice a1 p.rules.length c1, vm] 27)
  have hst : BlSt w (.slice am m.length cm) p m (.int .i64 p.n) vn vs (.slice a1 p.rules.length c1) vm (w.alloc (.cells #[.int .i64 p.n, vn, vs, .slice a1 p.rules.length c1, vm] 27)) := ⟨Blk.new w [.int .i64 p.n, vn, vs, .slice a1 p.rules.length c1, vm] _, hps.rules.below hal, hm.below hal, hal⟩
  have HS0 := Lib.hid hst
  have HP := Lib.hid (hP0.below hal)
  have hz0 : (w.alloc (.cells #[.int .i64 p.n, vn, vs, .slice a1 p.rules.length c1, vm] 27)).heap.size = w.heap.size + 1 := by simp
  have HZ0 := Lib.hid hz0
  clear hP0 hps hm hal hst hz0
  go_enter Tryz.func17, Tryz.ntmps17
  go_upto_region 1 with fail
  have kp0 := HS0.out.pbx.cell
  generalize w.alloc (.cells #[.int .i64 p.n, vn, vs, .slice a1 p.rules.length c1, vm] 27) = W0 at *
  by_cases he : xE p m = 0
  case neg =>
    have hne : (xE p m != 0) = true := by simp [he]
    have hne2 : (xE p m == 0) = false := by simp [he]
    have HF : Hid (blksX p m a = ([], xE p m)) := Lib.hid (by unfold blksX; rw [if_pos he])
    clear he
    go_wp2_with (go_at_call 49; (with_reducible refine (xcheck_any _ _ p m _ HP.out HS0.out.set).mono ?_); rintro e w1 ⟨rfl, hb1⟩)
    go_ret2
    rw [HF.out]
    exact ⟨_, rfl, MineK.nil _ _, bon HS0.out.below hb1⟩
  obtain ⟨hv, hset, hmod⟩ := xE_ok he
  have hn0 := (validP hv).n
  have hrl := (validP hv).rules
  have hml : m.length ≤ 4000 := by have := inc_le hset hn0.1; omega
  have HE := Lib.hid he
  have HV := Lib.hid hv
  have HMOD := Lib.hid hmod
  clear hv hset hmod
  by_cases hbad : a < 1 ∨ p.n < a ∨ a ∈ m
  case pos =>
    have HF : Hid (blksX p m a = ([], 2)) := Lib.hid (by unfold blksX; rw [if_neg (by simp [he]), if_pos hbad])
    clear he
    by_cases g1 : a < 1
    · clear hbad
      go_wp2_with (go_at_call 49; (with_reducible refine (xcheck_any _ _ p m _ HP.out HS0.out.set).mono ?_); rintro e w1 ⟨e1, hb1⟩; rw [HE.out] at e1; subst e1; have HS1 := Lib.hid (HS0.out.on hb1); have kp1 := HS1.out.pbx.cell; have HZ1 : Hid (w.heap.size + 1 ≤ w1.heap.size) := Lib.hid (by have := HZ0.out; have := hb1.size; omega); clear hb1)
      go_ret2
      rw [HF.out]
      exact ⟨_, rfl, MineK.nil _ _, HS1.out.below⟩
    · by_cases g2 : p.n < a
      · clear hbad
        go_wp2_with (go_at_call 49; (with_reducible refine (xcheck_any _ _ p m _ HP.out HS0.out.set).mono ?_); rintro e w1 ⟨e1, hb1⟩; rw [HE.out] at e1; subst e1; have HS1 := Lib.hid (HS0.out.on hb1); have kp1 := HS1.out.pbx.cell; have HZ1 : Hid (w.heap.size + 1 ≤ w1.heap.size) := Lib.hid (by have := HZ0.out; have := hb1.size; omega); clear hb1)
        go_ret2
        rw [HF.out]
        exact ⟨_, rfl, MineK.nil _ _, HS1.out.below⟩
      · have HIN : Hid (decide (a ∈ m) = true) := Lib.hid (decide_eq_true ((hbad.resolve_left g1).resolve_left g2))
        clear hbad
        go_wp2_with (first | (go_at_call 49; (with_reducible refine (xcheck_any _ _ p m _ HP.out HS0.out.set).mono ?_); rintro e w1 ⟨e1, hb1⟩; rw [HE.out] at e1; subst e1; have HS1 := Lib.hid (HS0.out.on hb1); have kp1 := HS1.out.pbx.cell; have HZ1 : Hid (w.heap.size + 1 ≤ w1.heap.size) := Lib.hid (by have := HZ0.out; have := hb1.size; omega); clear hb1) | (go_at_call 57; (with_reducible refine (contains_any _ m _ _ HS1.out.set).mono ?_); rintro e w2 ⟨e2, rfl⟩; rw [HIN.out] at e2; subst e2))
        go_ret2
        rw [HF.out]
        exact ⟨_, rfl, MineK.nil _ _, HS1.out.below⟩
  have hF : blksX p m a = (blksTo p m a p.rules.length, 0) := by unfold blksX; rw [if_neg (by simp [he]), if_neg hbad]
  have g1 : ¬ a < 1 := fun h => hbad (.inl h)
  have g2 : ¬ p.n < a := fun h => hbad (.inr (.inl h))
  have HIN : Hid (decide (a ∈ m) = false) := Lib.hid (decide_eq_false fun h => hbad (.inr (.inr h)))
  have HF := Lib.hid hF
  clear he hbad hF
  go_upto_region 7 with (first | (go_at_call 49; (with_reducible refine (xcheck_any _ _ p m _ HP.out HS0.out.set).mono ?_); rintro e w1 ⟨e1, hb1⟩; rw [HE.out] at e1; subst e1; have HS1 := Lib.hid (HS0.out.on hb1); have kp1 := HS1.out.pbx.cell; have HZ1 : Hid (w.heap.size + 1 ≤ w1.heap.size) := Lib.hid (by have := HZ0.out; have := hb1.size; omega); clear hb1) | (go_at_call 57; (with_reducible refine (contains_any _ m _ _ HS1.out.set).mono ?_); rintro e w2 ⟨e2, rfl⟩; rw [HIN.out] at e2; subst e2))
  clear kp0
  go_wp2
  go_loopw [9, 37] (fun vo i wx => BlRel p m a w1 vo i wx) (fun _ i _ => p.rules.length - (intOf i).toNat)
  case atStart => exact ⟨0, Nat.zero_le _, rfl, MineK.nil _ _, Below.refl _ _⟩
  case round =>
    obtain ⟨k, hk, rfl, hmo, hbl⟩ := hrel
    have hlb := blksTo_len p m a k
    obtain ⟨ao, co, rfl⟩ := hmo.slen
    have HMO := Lib.hid hmo
    have HBL := Lib.hid hbl
    have HSR := Lib.hid (HS1.out.on hbl)
    have hszr := hbl.size
    clear hmo hbl
    by_cases hlt : k < p.rules.length
    · obtain ⟨_, _, e, -, -, -, hcell⟩ := HSR.out.rul.form
      simp only [Value.slice.injEq, true_and] at e
      obtain ⟨rfl, rfl⟩ := e
      obtain ⟨b, off, rfl, hbl2, hc⟩ := hcell (by omega)
      obtain ⟨vh, vb, vw, ⟨k0, k1, k2, k3, k4, k5⟩, hsl⟩ := hc k hlt
      obtain ⟨r, hr⟩ : ∃ r, ixR p.rules k = r := ⟨_, rfl⟩
      have hbv := bodyV_valid HV.out hlt
      have hsat := allR_get HMOD.out k hlt
      have hnx : blksTo p m a (k + 1) = if a ∈ r.head then blksTo p m a k ++ [blkB r m k] else blksTo p m a k := by rw [← hr]; rfl
      rw [hr] at k0 k2 k3 hsl hbv hsat
      obtain ⟨ah, ch, rfl, -, hlh, -, -⟩ := hsl.head.form
      obtain ⟨ab, cb, rfl, -⟩ := hsl.body.form
      obtain ⟨aw, cw, rfl, -⟩ := hsl.wts.form
      have HBV := Lib.hid hbv
      have HSAT := Lib.hid hsat
      have HFT : Hid (BI (blkB r m k)) := Lib.hid (blkB_fit hsl.head.2 hsl.body.2 (by unfold InI; omega))
      have HNX := Lib.hid hnx
      have HSL := Lib.hid hsl
      clear hc hcell hr hbv hsat hnx hsl
      go_upto_region 10 with fail
      have hal3 := bal (Below.refl wr.heap.size wr) (.cells #[.bool r.choice, .slice ah r.head.length ch, .bool r.sum, .int .i64 r.bound, .slice ab r.body.length cb, .slice aw r.w.length cw] 60)
      have HS3 := Lib.hid (HSR.out.on hal3)
      have HK3 := Lib.hid (Blk.new wr [.bool r.choice, .slice ah r.head.length ch, .bool r.sum, .int .i64 r.bound, .slice ab r.body.length cb, .slice aw r.w.length cw] 60)
      have HR3 : Hid (RuleSl (wr.alloc (.cells #[.bool r.choice, .slice ah r.head.length ch, .bool r.sum, .int .i64 r.bound, .slice ab r.body.length cb, .slice aw r.w.length cw] 60)) r (.slice ah r.head.length ch) (.slice ab r.body.length cb) (.slice aw r.w.length cw)) := Lib.hid (HSL.out.below hal3)
      have HO3 := Lib.hid (HMO.out.below hal3)
      have HB3 := Lib.hid (bon HBL.out hal3)
      have kk3 := HK3.out.cell
      have hz3 : w1.heap.size ≤ (wr.alloc (.cells #[.bool r.choice, .slice ah r.head.length ch, .bool r.sum, .int .i64 r.bound, .slice ab r.body.length cb, .slice aw r.w.length cw] 60)).heap.size := by simp; omega
      clear hal3 k0 k1 k2 k3 k4 k5 hbl2
      generalize wr.alloc (.cells #[.bool r.choice, .slice ah r.head.length ch, .bool r.sum, .int .i64 r.bound, .slice ab r.body.length cb, .slice aw r.w.length cw] 60) = W3 at *
      generalize wr.heap.size = rb at *
      have HRI3 : Hid (RuleIs W3 (.agg #[.bool r.choice, .slice ah r.head.length ch, .bool r.sum, .int .i64 r.bound, .slice ab r.body.length cb, .slice aw r.w.length cw]) r) := Lib.hid ⟨_, _, _, rfl, HR3.out⟩
      by_cases hin : a ∈ r.head
      · have HH : Hid (decide (a ∈ r.head) = true) := Lib.hid (decide_eq_true hin)
        have HN2 : Hid (blksTo p m a (k + 1) = blksTo p m a k ++ [⟨k, (blkB r m 0).kind, (blkB r m 0).lit⟩]) := Lib.hid (by rw [HNX.out, if_pos hin, blkB_rule])
        have HFT2 : Hid (BI ⟨k, (blkB r m 0).kind, (blkB r m 0).lit⟩) := Lib.hid (by rw [← blkB_rule]; exact HFT.out)
        have HLN : Hid ((blksTo p m a k).length + 1 = (blksTo p m a (k + 1)).length) := Lib.hid (by rw [HN2.out]; simp)
        obtain ⟨bk0, hbk⟩ : ∃ b, blkB r m 0 = b := ⟨_, rfl⟩
        rw [hbk] at HN2 HFT2
        have HBK := Lib.hid hbk
        clear hin hbk
        go_upto_region 13 with (first
          | (go_at_call 57; (with_reducible refine (contains_any _ r.head _ _ HR3.out.head).mono ?_); rintro e w4 ⟨e4, rfl⟩; rw [HH.out] at e4; subst e4)
          | (go_at_call 59; (with_reducible refine (block_any _ _ r m p.n W3 HRI3.out HS3.out.set (by omega) HBV.out HSAT.out).mono ?_); rintro e w5 ⟨e5, hb5⟩; rw [HBK.out] at e5; have e6 : e = .returned (.agg #[.int .i64 bk0.rule, .int .u8 bk0.kind, .int .i64 bk0.lit]) := e5; subst e6; have HB5 := Lib.hid hb5; clear hb5 e5))
        have hal6 := bal HB5.out (.cells #[.int .i64 (k : Int), .int .u8 bk0.kind, .int .i64 bk0.lit] 65)
        have HS6 := Lib.hid (HS3.out.on hal6)
        have HO6 := Lib.hid (HO3.out.below hal6)
        have HB6 := Lib.hid (bon HB3.out hal6)
        have kz6 := (Blk.new w5 [.int .i64 (k : Int), .int .u8 bk0.kind, .int .i64 bk0.lit] 65).cell
        have hz6 := hal6.size
        clear hal6
        generalize w5.alloc (.cells #[.int .i64 (k : Int), .int .u8 bk0.kind, .int .i64 bk0.lit] 65) = W6 at *
        go_wp2_with (at_builtin; refine wpList_appendK rfl _ _ rfl w1.heap.size W6.heap.size _ _ (blksTo p m a k) [⟨k, bk0.kind, bk0.lit⟩] rfl rfl (HO6.out.below (bal (Below.refl _ _) _)) (MineK.one W6 HFT2.out) (by simp) (by simp; omega) (by simp; omega) ?_; intro g cap w7 hm7 hg7; have HB7 : Hid (Below w1.heap.size w1 w7) := Lib.hid (belowK2 (bal HB6.out _) (HO6.out.below (bal (Below.refl _ _) _)) hg7 (by simp; omega)); have HM7 := Lib.hid hm7; clear hm7 hg7)
        first
          | (go_roundw
             case rel => (exact ⟨k + 1, hlt, by go_num, by rw [HN2.out]; exact HM7.out, HB7.out⟩)
             case measure => (simp [intOf]; omega))
          | (refine ⟨?_, ?_⟩
             · (exact ⟨k + 1, hlt, by go_num, by rw [HN2.out]; exact HM7.out, HB7.out⟩)
             · (simp [intOf]; omega))
      · have HH : Hid (decide (a ∈ r.head) = false) := Lib.hid (decide_eq_false hin)
        have HN2 : Hid (blksTo p m a (k + 1) = blksTo p m a k) := Lib.hid (by rw [HNX.out, if_neg hin])
        clear hin
        go_wp2_with (go_at_call 57; (with_reducible refine (contains_any _ r.head _ _ HR3.out.head).mono ?_); rintro e w4 ⟨e4, rfl⟩; rw [HH.out] at e4; subst e4)
        first
          | (go_roundw
             case rel => (exact ⟨k + 1, hlt, by go_num, by rw [HN2.out]; exact HO3.out, HB3.out⟩)
             case measure => (simp [intOf]; omega))
          | (refine ⟨?_, ?_⟩
             · (exact ⟨k + 1, hlt, by go_num, by rw [HN2.out]; exact HO3.out, HB3.out⟩)
             · (simp [intOf]; omega))
    · obtain rfl : k = p.rules.length := by omega
      have hz1 : w.heap.size + 1 ≤ w1.heap.size := HZ1.out
      have HMO2 := Lib.hid (HMO.out.mono hz1)
      clear hz1
      go_wp2
      go_ret2
      rw [HF.out]
      exact ⟨_, rfl, HMO2.out, HSR.out.below⟩
def bitAt (bits : Int) (k : Nat) : Bool := decide (bits / 2 ^ k % 2 = 1)
def subL (bits : Int) : Nat → List Int
  | 0 => []
  | k + 1 => if bitAt bits k then subL bits k ++ [(k : Int) + 1] else subL bits k
theorem subL_len (bits : Int) : ∀ k, (subL bits k).length ≤ k
  | 0 => by simp [subL]
  | k + 1 => by
    have := subL_len bits k
    unfold subL
    split
    · rw [List.length_append, List.length_singleton]; omega
    · omega
theorem subL_range (bits : Int) : ∀ k, ∀ x ∈ subL bits k, 1 ≤ x ∧ x ≤ k
  | 0, x, h => by simp [subL] at h
  | k + 1, x, h => by
    unfold subL at h
    split at h
    · rcases List.mem_append.1 h with h | h
      · have := subL_range bits k x h; omega
      · obtain rfl : x = (k : Int) + 1 := by simpa using h
        omega
    · have := subL_range bits k x h; omega
theorem subL_sorted (bits : Int) : ∀ k, (subL bits k).Pairwise (· < ·)
  | 0 => by simp [subL]
  | k + 1 => by
    unfold subL
    split
    · refine List.pairwise_append.2 ⟨subL_sorted bits k, by simp, fun x hx y hy => ?_⟩
      obtain rfl : y = (k : Int) + 1 := by simpa using hy
      have := subL_range bits k x hx
      omega
    · exact subL_sorted bits k
theorem ix19 {l : List Int} {i : Nat} (h : i < l.length) : ix l i = l[i] := by simp [ix, List.getD, h]
theorem subL_set19 (bits : Int) {n : Int} (_hn : 0 ≤ n) : setQ n (subL bits n.toNat) = true := by
  unfold setQ
  refine allR_true fun j hj => ?_
  unfold setTo
  have h1 := subL_range bits n.toNat _ (ix_mem hj)
  rw [decide_eq_true (show 1 ≤ ix (subL bits n.toNat) j ∧ ix (subL bits n.toNat) j ≤ n by omega), Bool.true_and, Bool.or_eq_true]
  cases j with
  | zero => exact .inl rfl
  | succ j =>
    refine .inr (decide_eq_true ?_)
    rw [Nat.add_sub_cancel, ix19 (show j < _ by omega), ix19 hj]
    exact List.pairwise_iff_getElem.1 (subL_sorted bits n.toNat) j (j + 1) (by omega) hj (by omega)
theorem and_one19 (x : Int) : Go.bits .and .u16 x 1 = x % 2 := by
  unfold Go.bits
  simp only [BitVec.toNat_and, BitVec.toNat_ofInt]
  have e : ((1 : Int) % ((2 ^ IntKind.u16.bits : Nat) : Int)).toNat = 1 := by decide
  rw [e, Nat.and_one_is_mod]
  have e2 : ((2 ^ IntKind.u16.bits : Nat) : Int) = 65536 := by decide
  rw [e2, IntKind.wrap_u16]
  omega
theorem bit_test19 {bits : Int} {k : Nat} : (Go.bits .and .u16 (bits / 2 ^ k) 1 == 1) = bitAt bits k := by
  rw [and_one19]
  unfold bitAt
  rw [Bool.eq_iff_iff, beq_iff_eq, decide_eq_true_eq]
def Sb19Rel (bits : Int) (w : World) (n : Nat) (v i : Value) (wx : World) : Prop :=
  ∃ k : Nat, k ≤ n ∧ i = .int .i64 ((k : Int) + 1) ∧ QRow w.heap.size wx v (subL bits k) ∧ Below w.heap.size w wx
set_option maxHeartbeats 1000000 in
set_option maxRecDepth 100000 in
theorem subset19_any (n : Nat) (bits : Int) (hn : n ≤ 16) (w : World) :
    Calls Tryz.prog 28 #[.int .i64 n, .int .u16 bits] w fun e w' => ∃ v, e = .returned v ∧ QRow w.heap.size w' v (subL bits n) ∧ Below w.heap.size w w' := by
  go_enter Tryz.func28, Tryz.ntmps28
  go_wp2
  go_loopw [5, 6] (fun v i wx => Sb19Rel bits w n v i wx) (fun _ i _ => n + 1 - (intOf i).toNat)
  case atStart => exact ⟨0, Nat.zero_le _, rfl, QRow.nil _ _, Below.refl _ _⟩
  case round =>
    obtain ⟨k, hk, rfl, hq, hbl⟩ := hrel
    have HQ := Lib.hid hq
    have HBX := Lib.hid hbl
    have hlen2 := subL_len bits k
    have hlen3 : ((subL bits k).length + 1) * 8 ≤ 140737488351232 := by omega
    obtain ⟨av, nv, cv, rfl⟩ := hq.form
    have hzr := hbl.size
    clear hq hbl
    by_cases hlt : k < n
    · have hbt := bit_test19 (bits := bits) (k := k)
      have hmin : min k 64 = k := Nat.min_eq_left (by omega)
      cases hb : bitAt bits k with
      | true =>
        rw [hb] at hbt
        have HS : Hid (subL bits (k + 1) = subL bits k ++ [(k : Int) + 1]) := Lib.hid (by simp [subL, hb])
        have hxI : InI ((k : Int) + 1) := by unfold InI; omega
        have HXI := Lib.hid hxI
        clear hb hxI
        go_wp2_with (at_builtin; refine wpList_appendQ rfl _ _ 23 Tryz.underlying23 rfl w.heap.size _ (subL bits k) ((k : Int) + 1) rfl (HQ.out.kept (w' := wr.alloc (.cells #[.int .i64 ((k : Int) + 1)] 3)) (fun i h1 h2 _ => Below.heap_alloc _ _ _ h2)) wr.heap.size 1 rfl (Blk.new wr [.int .i64 ((k : Int) + 1)] _) HXI.out hlen3 (by simp; omega) ?_; intro v4 w4 hq4 hg4 hl4; have HB4 := Lib.hid (below_push HBX.out HQ.out (Nat.le_refl _) hg4); have HQ4 := Lib.hid hq4; clear hq4 hg4 hl4)
        first
          | (go_roundw
             case rel => (exact ⟨k + 1, hlt, by go_num, by rw [HS.out]; exact HQ4.out, HB4.out⟩)
             case measure => (simp [intOf]; omega))
          | (refine ⟨?_, ?_⟩
             · (exact ⟨k + 1, hlt, by go_num, by rw [HS.out]; exact HQ4.out, HB4.out⟩)
             · (simp [intOf]; omega))
      | false =>
        rw [hb] at hbt
        have HS : Hid (subL bits (k + 1) = subL bits k) := Lib.hid (by simp [subL, hb])
        clear hb
        go_wp2
        first
          | (go_roundw
             case rel => (exact ⟨k + 1, hlt, by go_num, by rw [HS.out]; exact HQ.out, HBX.out⟩)
             case measure => (simp [intOf]; omega))
          | (refine ⟨?_, ?_⟩
             · (exact ⟨k + 1, hlt, by go_num, by rw [HS.out]; exact HQ.out, HBX.out⟩)
             · (simp [intOf]; omega))
    · obtain rfl : k = n := by omega
      go_wp2
      go_ret
      exact ⟨_, rfl, HQ.out, HBX.out⟩
theorem subset19_int (x bits : Int) (hx : 0 ≤ x ∧ x ≤ 16) (w : World) :
    Calls Tryz.prog 28 #[.int .i64 x, .int .u16 bits] w fun e w' => ∃ v, e = .returned v ∧ QRow w.heap.size w' v (subL bits x.toNat) ∧ Below w.heap.size w w' := by
  obtain ⟨n, rfl⟩ := Int.eq_ofNat_of_zero_le hx.1
  exact subset19_any n bits (by omega) w
def few17R (r : GR) : Bool := decide (r.head.length + r.body.length + r.w.length ≤ 36)
def few17M (m : GM) : Bool := decide (m.lits.length + m.w.length ≤ 24)
def few17N (s : ByteArray) : Bool := decide (s.size ≤ 40)
def few17B (p : GP) : Bool := (decide (p.n ≤ 12) && decide (p.names.length ≤ 12) && decide (p.shown.length ≤ 12) && decide (p.rules.length ≤ 16) && decide (p.min.length ≤ 6)) && (allR p.names.length (fun i => few17N (ixS p.names i)) && (allR p.rules.length (fun i => few17R (ixR p.rules i)) && allR p.min.length (fun i => few17M (ixM p.min i))))
structure FwSt (w : World) (c : List Value) (W : World) : Prop where
  box : Blk W w.heap.size c 27
  below : Below w.heap.size w W
theorem FwSt.on {w W W' : World} {c : List Value} (h : FwSt w c W) (hb : Below W.heap.size W W') : FwSt w c W' := ⟨h.box.below hb, bon h.below hb⟩
def FwRel (f : Nat → Bool) (n : Nat) (w : World) (c : List Value) (i : Value) (wx : World) : Prop := ∃ k : Nat, k ≤ n ∧ i = .int .i64 k ∧ (∀ j, j < k → f j = true) ∧ FwSt w c wx
theorem fw_succ {f : Nat → Bool} {k : Nat} (h : ∀ j, j < k → f j = true) (hk : f k = true) : ∀ j, j < k + 1 → f j = true := fun j hj => by
  rcases Nat.lt_succ_iff_lt_or_eq.1 hj with h1 | rfl
  · exact h j h1
  · exact hk
set_option maxHeartbeats 2000000 in
set_option maxRecDepth 100000 in
theorem few17_any (v : Value) (p : GP) (w : World) (h : ProgIs w v p) :
    Calls Tryz.prog 11 #[v] w fun e w' => e = .returned (.bool (few17B p)) ∧ Below w.heap.size w w' := by
  obtain ⟨vn, vs, vr, vm, rfl, hn, hnames, hshown, hrules, hmin⟩ := h
  obtain ⟨a0, c0, rfl, -, hl0, -, hsz, hcn⟩ := hnames.form
  obtain ⟨a3, c3, rfl, -, hl3, -⟩ := hshown.form
  obtain ⟨a1, c1, rfl, -, hl1, -, hcell⟩ := hrules.form
  obtain ⟨a2, c2, rfl, -, hl2, -, hcm⟩ := hmin.form
  unfold InI at hn
  have hal := bal (Below.refl w.heap.size w) (.cells #[.int .i64 p.n, .slice a0 p.names.length c0, .slice a3 p.shown.length c3, .slice a1 p.rules.length c1, .slice a2 p.min.length c2] 27)
  have HCN := Lib.hid hcn
  have HCR := Lib.hid hcell
  have HCM := Lib.hid hcm
  have HSZ := Lib.hid hsz
  clear hnames hshown hrules hmin hcn hcell hcm hsz
  by_cases hfew : (decide (p.n ≤ 12) && decide (p.names.length ≤ 12) && decide (p.shown.length ≤ 12) && decide (p.rules.length ≤ 16) && decide (p.min.length ≤ 6)) = true
  · have HF : Hid (few17B p = (allR p.names.length (fun i => few17N (ixS p.names i)) && (allR p.rules.length (fun i => few17R (ixR p.rules i)) && allR p.min.length (fun i => few17M (ixM p.min i))))) := Lib.hid (by unfold few17B; rw [hfew]; rfl)
    simp only [Bool.and_eq_true, decide_eq_true_eq] at hfew
    obtain ⟨⟨⟨⟨g1, g2⟩, g3⟩, g4⟩, g5⟩ := hfew
    go_enter Tryz.func11, Tryz.ntmps11
    go_upto_region 3 with fail
    have HS0 : Hid (FwSt w [.int .i64 p.n, .slice a0 p.names.length c0, .slice a3 p.shown.length c3, .slice a1 p.rules.length c1, .slice a2 p.min.length c2] (w.alloc (.cells #[.int .i64 p.n, .slice a0 p.names.length c0, .slice a3 p.shown.length c3, .slice a1 p.rules.length c1, .slice a2 p.min.length c2] 27))) := Lib.hid ⟨Blk.new w [.int .i64 p.n, .slice a0 p.names.length c0, .slice a3 p.shown.length c3, .slice a1 p.rules.length c1, .slice a2 p.min.length c2] _, hal⟩
    have kx := HS0.out.box.cell
    clear hal
    generalize w.alloc (.cells #[.int .i64 p.n, .slice a0 p.names.length c0, .slice a3 p.shown.length c3, .slice a1 p.rules.length c1, .slice a2 p.min.length c2] 27) = W at *
    go_wp2
    go_loopw [39] (fun i wx => FwRel (fun i => few17N (ixS p.names i)) p.names.length w [.int .i64 p.n, .slice a0 p.names.length c0, .slice a3 p.shown.length c3, .slice a1 p.rules.length c1, .slice a2 p.min.length c2] i wx) (fun i _ => p.names.length - (intOf i).toNat)
    case atStart => exact ⟨0, by omega, rfl, fun j hj => absurd hj (Nat.not_lt_zero _), HS0.out⟩
    case round =>
      obtain ⟨k, hk, rfl, hall, hb⟩ := hrel
      have HA := Lib.hid hall
      have HS := Lib.hid hb
      clear hall hb kx
      by_cases hlt : k < p.names.length
      · obtain ⟨b, off, rfl, hbl, hc⟩ := HCN.out (by omega)
        have q0 := (bcell HS.out.below _ _ hbl).trans (hc k hlt)
        have hs := HSZ.out k
        clear hc
        by_cases e1 : (ixS p.names k).size ≤ 40
        · have HN := Lib.hid (fw_succ HA.out (show few17N (ixS p.names k) = true from decide_eq_true e1))
          go_wp2
          first
            | (go_roundw
               case rel => (exact ⟨k + 1, by omega, by go_num, HN.out, HS.out⟩)
               case measure => (simp [intOf]; omega))
            | (refine ⟨?_, ?_⟩
               · (exact ⟨k + 1, by omega, by go_num, HN.out, HS.out⟩)
               · (simp [intOf]; omega))
        · have HN : Hid (few17B p = false) := Lib.hid (by rw [HF.out, allR_false k hlt (decide_eq_false e1)]; rfl)
          go_wp2
          go_ret
          exact ⟨ret_bool HN.out.symm, HS.out.below⟩
      · have HN0 : Hid (allR p.names.length (fun i => few17N (ixS p.names i)) = true) := Lib.hid (allR_true (fun j hj => HA.out j (by omega)))
        have kx := HS.out.box.cell
        go_upto_region 9 with fail
        go_wp2
        go_loopw [50] (fun i wx => FwRel (fun i => few17R (ixR p.rules i)) p.rules.length w [.int .i64 p.n, .slice a0 p.names.length c0, .slice a3 p.shown.length c3, .slice a1 p.rules.length c1, .slice a2 p.min.length c2] i wx) (fun i _ => p.rules.length - (intOf i).toNat)
        case atStart => exact ⟨0, by omega, rfl, fun j hj => absurd hj (Nat.not_lt_zero _), HS.out⟩
        case round =>
          obtain ⟨k, hk, rfl, hall, hb⟩ := hrel
          have HA := Lib.hid hall
          have HS2 := Lib.hid hb
          clear hall hb kx
          by_cases hlt : k < p.rules.length
          · obtain ⟨b, off, rfl, hbl, hc⟩ := HCR.out (by omega)
            obtain ⟨vh, vb, vw, ⟨r0, r1, r2, r3, r4, r5⟩, hsl⟩ := hc k hlt
            obtain ⟨x1, y1, rfl, -, g1', -, -⟩ := hsl.head.form
            obtain ⟨x2, y2, rfl, -, g2', -, -⟩ := hsl.body.form
            obtain ⟨x3, y3, rfl, -, g3', -, -⟩ := hsl.wts.form
            have kk := bcell HS2.out.below b
            have q0 := (kk _ hbl).trans r0
            have q1 := (kk _ hbl).trans r1
            have q2 := (kk _ hbl).trans r2
            have q3 := (kk _ hbl).trans r3
            have q4 := (kk _ hbl).trans r4
            have q5 := (kk _ hbl).trans r5
            clear kk r0 r1 r2 r3 r4 r5 hc hsl
            by_cases e1 : (ixR p.rules k).head.length + (ixR p.rules k).body.length + (ixR p.rules k).w.length ≤ 36
            · have HN := Lib.hid (fw_succ HA.out (show few17R (ixR p.rules k) = true from decide_eq_true e1))
              go_wp2
              first
                | (go_roundw
                   case rel => (exact ⟨k + 1, by omega, by go_num, HN.out, HS2.out.on (bal (Below.refl _ _) _)⟩)
                   case measure => (simp [intOf]; omega))
                | (refine ⟨?_, ?_⟩
                   · (exact ⟨k + 1, by omega, by go_num, HN.out, HS2.out.on (bal (Below.refl _ _) _)⟩)
                   · (simp [intOf]; omega))
            · have HN : Hid (few17B p = false) := Lib.hid (by rw [HF.out, HN0.out, allR_false k hlt (decide_eq_false e1)]; rfl)
              go_wp2
              go_ret
              exact ⟨ret_bool HN.out.symm, bal HS2.out.below _⟩
          · have HN1 : Hid (allR p.rules.length (fun i => few17R (ixR p.rules i)) = true) := Lib.hid (allR_true (fun j hj => HA.out j (by omega)))
            have kx := HS2.out.box.cell
            go_upto_region 15 with fail
            go_wp2
            go_loopw [70] (fun i wx => FwRel (fun i => few17M (ixM p.min i)) p.min.length w [.int .i64 p.n, .slice a0 p.names.length c0, .slice a3 p.shown.length c3, .slice a1 p.rules.length c1, .slice a2 p.min.length c2] i wx) (fun i _ => p.min.length - (intOf i).toNat)
            case atStart => exact ⟨0, by omega, rfl, fun j hj => absurd hj (Nat.not_lt_zero _), HS2.out⟩
            case round =>
              obtain ⟨k, hk, rfl, hall, hb⟩ := hrel
              have HA := Lib.hid hall
              have HS3 := Lib.hid hb
              clear hall hb kx
              by_cases hlt : k < p.min.length
              · obtain ⟨b, off, rfl, hbl, hc⟩ := HCM.out (by omega)
                obtain ⟨vl, vw, ⟨r0, r1, r2⟩, hsl⟩ := hc k hlt
                obtain ⟨x1, y1, rfl, -, g1', -, -⟩ := hsl.lits.form
                obtain ⟨x2, y2, rfl, -, g2', -, -⟩ := hsl.wts.form
                have kk := bcell HS3.out.below b
                have q0 := (kk _ hbl).trans r0
                have q1 := (kk _ hbl).trans r1
                have q2 := (kk _ hbl).trans r2
                clear kk r0 r1 r2 hc hsl
                by_cases e1 : (ixM p.min k).lits.length + (ixM p.min k).w.length ≤ 24
                · have HN := Lib.hid (fw_succ HA.out (show few17M (ixM p.min k) = true from decide_eq_true e1))
                  go_wp2
                  first
                    | (go_roundw
                       case rel => (exact ⟨k + 1, by omega, by go_num, HN.out, HS3.out.on (bal (Below.refl _ _) _)⟩)
                       case measure => (simp [intOf]; omega))
                    | (refine ⟨?_, ?_⟩
                       · (exact ⟨k + 1, by omega, by go_num, HN.out, HS3.out.on (bal (Below.refl _ _) _)⟩)
                       · (simp [intOf]; omega))
                · have HN : Hid (few17B p = false) := Lib.hid (by rw [HF.out, HN0.out, HN1.out, allR_false k hlt (decide_eq_false e1)]; rfl)
                  go_wp2
                  go_ret
                  exact ⟨ret_bool HN.out.symm, bal HS3.out.below _⟩
              · have HN : Hid (few17B p = true) := Lib.hid (by rw [HF.out, HN0.out, HN1.out, allR_true (fun j hj => HA.out j (by omega))]; rfl)
                go_wp2
                go_ret
                exact ⟨ret_bool HN.out.symm, HS3.out.below⟩
  · have HF : Hid (few17B p = false) := Lib.hid (by unfold few17B; rw [Bool.eq_false_iff.2 hfew]; rfl)
    simp only [Bool.and_eq_true, decide_eq_true_eq] at hfew
    by_cases g1 : p.n ≤ 12
    · by_cases g2 : p.names.length ≤ 12
      · by_cases g3 : p.shown.length ≤ 12
        · by_cases g4 : p.rules.length ≤ 16
          · have g5 : ¬ p.min.length ≤ 6 := fun h => hfew ⟨⟨⟨⟨g1, g2⟩, g3⟩, g4⟩, h⟩
            clear hfew
            go_enter Tryz.func11, Tryz.ntmps11
            go_wp2
            go_ret
            exact ⟨ret_bool HF.out.symm, hal⟩
          · clear hfew
            go_enter Tryz.func11, Tryz.ntmps11
            go_wp2
            go_ret
            exact ⟨ret_bool HF.out.symm, hal⟩
        · clear hfew
          go_enter Tryz.func11, Tryz.ntmps11
          go_wp2
          go_ret
          exact ⟨ret_bool HF.out.symm, hal⟩
      · clear hfew
        go_enter Tryz.func11, Tryz.ntmps11
        go_wp2
        go_ret
        exact ⟨ret_bool HF.out.symm, hal⟩
    · clear hfew
      go_enter Tryz.func11, Tryz.ntmps11
      go_wp2
      go_ret
      exact ⟨ret_bool HF.out.symm, hal⟩
end Go.Proofs.YtfajkmmmmmfhiaaGreatDoor
