/- My texts Ex7, Ex10, Ex1, PermJ, NrmR, Pb1, Pb3, merged. -/
import Derived.Test.YtgakoainjgjimaaGreatDoorM09
import Derived.Test.YtgakoainjgjimaaGreatDoorM08
import Derived.Test.YtgakoainjgjimaaGreatDoorM07
import Derived.Test.YtgakoainjgjimaaGreatDoorM05
import Derived.Test.YtgakoainjgjimaaGreatDoorM04
import Derived.Test.YtgakoainjgjimaaGreatDoorM03
import Derived.Test.YtgakoainjgjimaaGreatDoorM00
import Derived.Test.YtgakoainjgjimaaGreatDoorProg
import Derived.WalkKit
import Derived.Lib.Hide
import Derived.Deep.QuietTactic
import Derived.BigQuiet
import Derived.WalkSpells
import Derived.Lib.SliceRun
import Derived.MapKept
import Derived.Maps.OwnSet
import Derived.Maps.OwnOps
import Derived.Test.YtgakoainjgjimaaGreatDoorM02
import Derived.Test.YtgakoainjgjimaaGreatDoorM01
import Derived.Deep.AppendLies
import Derived.Lib.Bytealg
import Derived.Deep.DeepCutAuto
import Derived.Laws.EntriesVeiled
import Derived.Deep.RegionWith
import Derived.Deep.OwnRows
import Derived.Test.YtgakoainjgjimaaGreatDoorM06
import Derived.RangeFuncNested
import Derived.RangeFuncBound
import Derived.RangeFuncCalls
import Derived.RangeFuncLeaves
import Derived.OwnWalkIn
import Derived.TacticsInMore
import Derived.LoopNIn
import Derived.LoopIn
import Derived.Stop.RegionWithIn
import Derived.Shelf.Abstract
import Derived.Deep.LoopGhost
import Derived.Deep.DrawnRows
import Derived.Shelf.Sort.Plain
import Derived.Shelf.Slices.CompactI
import Derived.Shelf.Slices.In.SortNone
import Derived.Shelf.Strconv.Itoa3
import Derived.Shelf.Strings.BuilderK
import Derived.Shelf.Slices.SearchI
import Derived.Shelf.Slices.Empties
import Derived.Deep.AppendSrc
import Derived.Test.YtgakoainjgjimaaGreatDoorM10
import Derived.Lib.SlicesCompact
import Derived.Sort.OwnSortedInts
import Derived.Sort.QuietThIn

namespace Go.Proofs.YtgakoainjgjimaaGreatDoor
open Go.RowKit
theorem LeftX.slen {W : World} {v : Value} {l : List Int} {lo hi : Nat} (h : LeftX W v l lo hi) : ∃ a c, v = .slice a l.length c := by
  rcases h with ⟨rfl, rfl⟩ | ⟨g, c, D, rfl, -⟩
  · exact ⟨_, _, rfl⟩
  · exact ⟨_, _, rfl⟩
theorem OwnI.left {W : World} {a : Option Addr} {n c base lo hi : Nat} {l : List Int} (h : OwnI base W (.slice a n c) l) (h1 : lo < base) (h2 : W.heap.size ≤ hi) : LeftX W (.slice a n c) l lo hi := by
  obtain ⟨⟨hrow, h8⟩, hfit⟩ := h
  rcases hrow.2 with ⟨e, h0⟩ | ⟨g, cap, cur, e, hb, hg, hn, hm, hs, hx⟩
  · exact .inl ⟨e, List.eq_nil_of_length_eq_zero h0⟩
  · refine .inr ⟨g, cap, cur.toList, e, by omega, Nat.lt_of_lt_of_le (Array.getElem?_eq_some_iff.1 hg).1 h2, by unfold Blk; simpa using hg, fun k hk => ?_, hfit, hn, by simp; omega, hm, h8⟩
    have h4 : (cur.toList.take (l.length * 1))[k]? = some (.int .i64 (ix l k)) := by rw [hx]; simp [hk]
    rw [List.getElem?_take_of_lt (by omega)] at h4
    exact h4
set_option maxHeartbeats 8000000 in
set_option maxRecDepth 100000 in
theorem explain_any (v vset : Value) (p : GP) (m : List Int) (w : World) (h : ProgIs w v p) (hm : Ints w vset m) :
    Calls Tryz.prog 9 #[v, vset] w fun e w' => ∃ vx, e = .returned (.tuple #[vx, .int .i64 (xE p m)]) ∧ ExplQ (w.heap.size + 2) w' vx (if xE p m = 0 then explX p m else ⟨[], []⟩) ∧ Below w.heap.size w w' := by
  have h0 := h
  obtain ⟨vn, vs, vr, vm, rfl, hps⟩ := h
  obtain ⟨a1, c1, rfl, -, hl1, -, -⟩ := hps.rules.form
  obtain ⟨am, cm, rfl, -⟩ := id hm.form
  have hal := bal (bal (Below.refl w.heap.size w) (.cells #[.int .i64 p.n, vn, vs, .slice a1 p.rules.length c1, vm] 27)) (.cells #[.slice none 0 0, .slice none 0 0] 30)
  have HBX : Hid (Blk ((w.alloc (.cells #[.int .i64 p.n, vn, vs, .slice a1 p.rules.length c1, vm] 27)).alloc (.cells #[.slice none 0 0, .slice none 0 0] 30)) w.heap.size [.int .i64 p.n, vn, vs, .slice a1 p.rules.length c1, vm] 27) := Lib.hid ((Blk.new w [.int .i64 p.n, vn, vs, .slice a1 p.rules.length c1, vm] _).alloc _)
  have HRX : Hid (Blk ((w.alloc (.cells #[.int .i64 p.n, vn, vs, .slice a1 p.rules.length c1, vm] 27)).alloc (.cells #[.slice none 0 0, .slice none 0 0] 30)) (w.heap.size + 1) [.slice none 0 0, .slice none 0 0] 30) := Lib.hid (Blk.new2 w _ [.slice none 0 0, .slice none 0 0] _)
  have HP := Lib.hid (h0.below hal)
  have HP0 := Lib.hid h0
  have HM0 := Lib.hid hm
  have HM := Lib.hid (hm.below hal)
  have HAL := Lib.hid hal
  clear h0 hps hm hal
  go_enter Tryz.func9, Tryz.ntmps9
  go_upto_region 1 with fail
  have kx := HBX.out.cell
  have kr := HRX.out.cell
  have hz0 : ((w.alloc (.cells #[.int .i64 p.n, vn, vs, .slice a1 p.rules.length c1, vm] 27)).alloc (.cells #[.slice none 0 0, .slice none 0 0] 30)).heap.size = w.heap.size + 2 := by simp
  have HZ0 := Lib.hid hz0
  clear hz0
  generalize (w.alloc (.cells #[.int .i64 p.n, vn, vs, .slice a1 p.rules.length c1, vm] 27)).alloc (.cells #[.slice none 0 0, .slice none 0 0] 30) = W0 at *
  by_cases he : xE p m = 0
  case neg =>
    have hne : (xE p m != 0) = true := by simp [he]
    have hne2 : (xE p m == 0) = false := by simp [he]
    have HE := Lib.hid he
    clear he
    go_wp2_with (go_at_call 37; (with_reducible refine (xcheck_any _ _ p m _ HP.out HM.out).mono ?_); rintro e w1 ⟨rfl, hb1⟩; have HR1 := Lib.hid (HRX.out.below hb1); have kr1 := HR1.out.cell; have fr1 := HR1.out.free; have HB1 := Lib.hid (bon HAL.out hb1); clear hb1)
    have hR9 := (HR1.out.set 0 (.slice none 0 0)).set 1 (.slice none 0 0)
    simp only [List.set_cons_zero, List.set_cons_succ] at hR9
    have kr9 := hR9.cell
    have hB9 := (HB1.out.setCell (p := ⟨w.heap.size + 1, 0, none⟩) (by show w.heap.size ≤ w.heap.size + 1; omega) (.slice none 0 0)).setCell (p := ⟨w.heap.size + 1, 1, none⟩) (by show w.heap.size ≤ w.heap.size + 1; omega) (.slice none 0 0)
    generalize (w1.setCell ⟨w.heap.size + 1, 0, none⟩ (.slice none 0 0)).setCell ⟨w.heap.size + 1, 1, none⟩ (.slice none 0 0) = W9 at *
    refine bodyPost_ret (v := .tuple #[.agg #[.slice none 0 0, .slice none 0 0], .int .i64 (xE p m)]) ?_ rfl ⟨_, rfl, ?_, hB9⟩
    · simp [results, Tryz.f9, go_sem, kr9]
    · exact ⟨_, _, rfl, MineY.nil _ _, QRow.nil _ _⟩
  obtain ⟨hv, hset, -⟩ := xE_ok he
  have hn0 := (validP hv).n
  obtain ⟨N, hN⟩ : ∃ N : Nat, p.n = N := ⟨p.n.toNat, by omega⟩
  have hN4 : N ≤ 4000 := by omega
  have hmr : ∀ x ∈ m, 1 ≤ x ∧ x ≤ (N : Int) := fun x hx => by have := setQ_rng hset hx; omega
  have hsrt := setQ_sorted hset
  have hnd : m.Nodup := hsrt.imp fun h => Int.ne_of_lt h
  have hml : m.length ≤ 4000 := by have := inc_le hset hn0.1; omega
  have hmk : ∀ w : World, (Instr.makeSlice 23 (.int .i64 ((N : Int) + 1)) (.int .i64 ((N : Int) + 1))).run Tryz.prog w = .ok (.slice (some ⟨w.heap.size, 0, none⟩) (N + 1) (N + 1)) (w.alloc (.cells (madeCells #[.int .i64 0] (N + 1)) 3)) := fun w => run_make_row' _ _ _ _ Tryz.underlying23 infoI rfl .i64 .i64 (N + 1) (by omega) (by omega) w
  have HE := Lib.hid he
  have HV := Lib.hid hv
  have HN := Lib.hid hN
  have HMR := Lib.hid hmr
  have HSRT := Lib.hid hsrt
  have HND := Lib.hid hnd
  clear he hv hset hn0 hN hmr hsrt hnd
  go_upto_region 5 with (go_at_call 37; (with_reducible refine (xcheck_any _ _ p m _ HP.out HM.out).mono ?_); rintro e w1 ⟨e1, hb1⟩; rw [HE.out] at e1; subst e1; have HR1 := Lib.hid (HRX.out.below hb1); have HX1 := Lib.hid (HBX.out.below hb1); have HB1 := Lib.hid (bon HAL.out hb1); have HP1 := Lib.hid (HP.out.below hb1); have HM1 := Lib.hid (HM.out.below hb1); have hz1 := hb1.size; clear hb1)
  have kx1 := (HX1.out.alloc (.cells #[.slice none 0 0, .slice none 0 0] 30)).cell
  rw [HN.out] at kx1
  go_upto_region 6 with fail
  have hal5 := bal (bal (bal (Below.refl w1.heap.size w1) (.cells #[.slice none 0 0, .slice none 0 0] 30)) (.cells (madeCells #[.int .i64 0] (N + 1)) 3)) (.cells #[.slice (some ⟨w1.heap.size + 1, 0, none⟩) (N + 1) (N + 1)] 23)
  have ho5 : Blk (((w1.alloc (.cells #[.slice none 0 0, .slice none 0 0] 30)).alloc (.cells (madeCells #[.int .i64 0] (N + 1)) 3)).alloc (.cells #[.slice (some ⟨w1.heap.size + 1, 0, none⟩) (N + 1) (N + 1)] 23)) w1.heap.size [.slice none 0 0, .slice none 0 0] 30 := ((Blk.new w1 [.slice none 0 0, .slice none 0 0] _).alloc _).alloc _
  have hl5 : Blk (((w1.alloc (.cells #[.slice none 0 0, .slice none 0 0] 30)).alloc (.cells (madeCells #[.int .i64 0] (N + 1)) 3)).alloc (.cells #[.slice (some ⟨w1.heap.size + 1, 0, none⟩) (N + 1) (N + 1)] 23)) (w1.heap.size + 1) ((lvL N []).map (Value.int .i64)) 3 := by
    have := (Blk.new2 w1 (.cells #[.slice none 0 0, .slice none 0 0] 30) (List.replicate (N + 1) (Value.int .i64 0)) 3).alloc (.cells #[.slice (some ⟨w1.heap.size + 1, 0, none⟩) (N + 1) (N + 1)] 23)
    rw [← made_list] at this
    have e : (lvL N []).map (Value.int .i64) = List.replicate (N + 1) (Value.int .i64 0) := by
      apply List.ext_getElem (by simp [lvL])
      intro i h1 h2
      simp [lvL, lvF_nil]
    rw [e]; exact this
  have hb5 : Blk (((w1.alloc (.cells #[.slice none 0 0, .slice none 0 0] 30)).alloc (.cells (madeCells #[.int .i64 0] (N + 1)) 3)).alloc (.cells #[.slice (some ⟨w1.heap.size + 1, 0, none⟩) (N + 1) (N + 1)] 23)) (w1.heap.size + 1 + 1) [.slice (some ⟨w1.heap.size + 1, 0, none⟩) (N + 1) (N + 1)] 23 := Blk.newAt _ _ _ (by simp)
  have hz5 : (((w1.alloc (.cells #[.slice none 0 0, .slice none 0 0] 30)).alloc (.cells (madeCells #[.int .i64 0] (N + 1)) 3)).alloc (.cells #[.slice (some ⟨w1.heap.size + 1, 0, none⟩) (N + 1) (N + 1)] 23)).heap.size = w1.heap.size + 3 := by simp
  have HAL5 := Lib.hid hal5
  have HO5 := Lib.hid ho5
  have HL5 := Lib.hid hl5
  have HB5 := Lib.hid hb5
  have HM5 := Lib.hid (HM1.out.below hal5)
  have kb5 := hb5.cell 0
  have HZ5 := Lib.hid hz5
  clear hal5 ho5 hl5 hb5 hmk kx1 hz5
  generalize ((w1.alloc (.cells #[.slice none 0 0, .slice none 0 0] 30)).alloc (.cells (madeCells #[.int .i64 0] (N + 1)) 3)).alloc (.cells #[.slice (some ⟨w1.heap.size + 1, 0, none⟩) (N + 1) (N + 1)] 23) = W5 at *
  go_upto_region 7 with (go_at_call 38; (with_reducible refine (deriver_any _ _ m W5 HM5.out ⟨_, _, _, rfl⟩).mono ?_); rintro e w6 ⟨rfl, hi6, hm6, hl6, hb6⟩; have HI6 := Lib.hid hi6; have HQ6 := Lib.hid hm6; have HL6 := Lib.hid hl6; have HB6 := Lib.hid hb6; have hz6 := hb6.size; clear hi6 hm6 hl6 hb6)
  have hal7 := bal (Below.refl w6.heap.size w6) (.cells #[.func (.func 88) #[] #[.pointer (some ⟨W5.heap.size + 2, 0, none⟩), .pointer (some ⟨W5.heap.size + 1, 0, none⟩)]] 76)
  have HF7 := Lib.hid (Blk.new w6 [.func (.func 88) #[] #[.pointer (some ⟨W5.heap.size + 2, 0, none⟩), .pointer (some ⟨W5.heap.size + 1, 0, none⟩)]] 76)
  have hz7 : (w6.alloc (.cells #[.func (.func 88) #[] #[.pointer (some ⟨W5.heap.size + 2, 0, none⟩), .pointer (some ⟨W5.heap.size + 1, 0, none⟩)]] 76)).heap.size = w6.heap.size + 1 := by simp
  have HZ7 := Lib.hid hz7
  have HB7 := Lib.hid (bon HB6.out hal7)
  have HI7 := Lib.hid (HI6.out.below hal7)
  have HQ7 := Lib.hid (HQ6.out.below hal7)
  have HL7 := Lib.hid (HL6.out.below hal7)
  have HM7 := Lib.hid (HM5.out.below (bon HB6.out hal7))
  clear hal7 hz7
  generalize w6.alloc (.cells #[.func (.func 88) #[] #[.pointer (some ⟨W5.heap.size + 2, 0, none⟩), .pointer (some ⟨W5.heap.size + 1, 0, none⟩)]] 76) = W7 at *
  go_upto_region 8 with (go_at_call 39; (with_reducible refine (cloneI_sl _ m W7 HM7.out).mono ?_); rintro e w8 ⟨a8, c8, rfl, ho8, hb8⟩; have HO8 := Lib.hid ho8; have HB8 := Lib.hid hb8; have hz8 := hb8.size; clear ho8 hb8)
  have hst : XpSt w (.slice am m.length cm) p N vn vs (.slice a1 p.rules.length c1) vm w1.heap.size (w1.heap.size + 1) (w1.heap.size + 1 + 1) w6.heap.size (W5.heap.size + 2) W5.heap.size (W5.heap.size + 1) (w8.heap.size + 1) 1 w8.heap.size [] [] (leftX m []) (.slice a8 m.length c8) (w8.alloc (.cells #[.int .i64 1] 3)) := by
    have hz5 := HZ5.out
    have hz7 := HZ7.out
    have hz0 := HZ0.out
    have b18 : Below w1.heap.size w1 w8 := bon (bon HAL5.out HB7.out) HB8.out
    have b58 : Below W5.heap.size W5 w8 := bon HB7.out HB8.out
    have hx := HX1.out.below b18
    rw [HN.out] at hx
    refine ⟨hx.alloc _, (HR1.out.below b18).alloc _, ⟨_, (HO5.out.below b58).alloc _, MineY.nil _ _⟩, (HL5.out.below b58).alloc _, (HB5.out.below b58).alloc _, (HF7.out.below HB8.out).alloc _, (HI7.out.below HB8.out).alloc _, (HQ7.out.below HB8.out).alloc _, (HL7.out.below HB8.out).alloc _, Blk.new w8 [.int .i64 1] _, ?_, bal (bon HB1.out b18) _, by omega, by simp⟩
    rw [leftX_nil]
    exact (HO8.out.left (by omega) (Nat.le_refl _)).below (bal (Below.refl _ _) _)
  have HS9 := Lib.hid hst
  have hord := hst.ord
  clear hst HX1 HR1 HO5 HL5 HB5 HF7 HI7 HQ7 HL7 HO8 HB8 HB7 HM5 HM7 HAL5 HI6 HQ6 HL6 HB6 kb5 kx kr HBX HRX HM HP HP1 HM1 HB1 HAL
  go_wp2
  generalize w8.alloc (.cells #[.int .i64 1] 3) = W9 at *
  generalize w8.heap.size = kb0 at *
  generalize W5.heap.size = z5 at *
  generalize w6.heap.size = bd at *
  generalize w1.heap.size = bo at *
  go_loopw [10, 11] (fun vl vk wx => Ex1Rel w (.slice am m.length cm) p m N vn vs (.slice a1 p.rules.length c1) vm bo (bo + 1) (bo + 1 + 1) bd (z5 + 2) z5 (z5 + 1) (kb0 + 1) vl vk wx) (fun vl _ _ => lenOf vl)
  case atStart => exact ⟨1, [], kb0, rfl, RndX.start p m, by simp, fun _ h => absurd h List.not_mem_nil, HS9.out⟩
  case round =>
    obtain ⟨k, ws, kb, rfl, hR, hkw, hyi, hst⟩ := hrel
    obtain ⟨al, cl, rfl⟩ := hst.lft.slen
    have hwl := hR.size HND.out
    have hk1 := hR.pos
    have HRD := Lib.hid hR
    have HS := Lib.hid hst
    have HYI := Lib.hid hyi
    have HYL : Hid (∀ y ∈ ws, InI y.level) := Lib.hid fun y hy => (hyi y hy).2.2
    have kpr := hst.pbx.cell
    have hll : (leftX m ws).length ≤ 4000 := Nat.le_trans (List.length_filter_le _ _) hml
    obtain ⟨w2r, rfl⟩ : ∃ x : World, x = wr := ⟨_, rfl⟩
    have hB2 := hst.below.size
    clear hR hyi hst
    go_wp2
    go_loopw [12, 38] (fun vnow i wx => Ex2Rel p m (doneX m ws) k (leftX m ws) w2r vnow i wx) (fun _ i _ => (leftX m ws).length - (intOf i).toNat)
    case atStart => exact ⟨0, Nat.zero_le _, rfl, MineY.nil _ _, Below.refl _ _⟩
    case round =>
      obtain ⟨j, hj, rfl, hmy, hbl⟩ := hrel
      obtain ⟨an, cn, rfl⟩ := hmy.slen
      have HMY := Lib.hid hmy
      have HBL := Lib.hid hbl
      have HS2 := Lib.hid (HS.out.on hbl)
      have hszr := hbl.size
      have hnl : (nowX p m (doneX m ws) k ((leftX m ws).take j)).length ≤ j := by
        have := List.length_filterMap_le (fun a => (firR p m (doneX m ws) a).map fun (i : Nat) => (⟨a, i, (k : Int)⟩ : WY)) ((leftX m ws).take j)
        unfold nowX
        rw [List.length_take] at this
        omega
      clear hmy hbl
      by_cases hlt : j < (leftX m ws).length
      · obtain ⟨b, off, rfl, hb, hc⟩ := HS2.out.lft.ints.at hlt
        obtain ⟨a, ha⟩ : ∃ a, ix (leftX m ws) j = a := ⟨_, rfl⟩
        have ham : a ∈ m := by rw [← ha]; exact (List.mem_filter.1 (ix_mem hlt)).1
        have haN := HMR.out a ham
        have hnx := nowX_take (p := p) (m := m) (T := doneX m ws) (k := k) hlt
        rw [ha] at hc hnx
        have HNX := Lib.hid hnx
        clear ha ham hnx
        go_upto_region 14 with fail
        have hal3 := bal (Below.refl wr.heap.size wr) (.cells #[.int .i64 a] 3)
        have HS3 := Lib.hid (HS2.out.on hal3)
        have HA3 := Lib.hid (Blk.new wr [.int .i64 a] 3)
        have HMY3 := Lib.hid (HMY.out.below hal3)
        have HBL3 := Lib.hid (bon HBL.out hal3)
        have kp3 := HS3.out.pbx.cell
        clear hal3 hc hb
        generalize wr.alloc (.cells #[.int .i64 a] 3) = W3 at *
        generalize wr.heap.size = ab at *
        go_upto_region 15 with (go_at_call 40; (with_reducible refine (idxR_dv HRD.out HV.out HMR.out (by omega) hN4 HYL.out (HS3.out.dv HM0.out HSRT.out HYL.out hN4) HA3.out HS3.out.kbx (ProgIs.rulesOf (HP0.out.below HS3.out.below))).mono ?_); rintro e w4 ⟨r, rfl, hr, hb4⟩; have HRR := Lib.hid hr; have HS4 := Lib.hid (HS3.out.on hb4); have ka4 := (HA3.out.below hb4).cell 0; have kk4 := HS4.out.kbx.cell 0; have HMY4 := Lib.hid (HMY3.out.below hb4); have HB4 := Lib.hid (bon HBL3.out hb4); clear hr hb4)
        rcases HRR.out with ⟨rfl, hf⟩ | ⟨i, rfl, hi, hf⟩
        · rw [hf] at HNX
          have HNX2 : Hid (nowX p m (doneX m ws) k ((leftX m ws).take (j + 1)) = nowX p m (doneX m ws) k ((leftX m ws).take j)) := Lib.hid (by rw [HNX.out, List.append_nil])
          clear hf
          go_wp2_with fail
          first
            | (go_roundw
               case rel => (exact ⟨j + 1, hlt, by go_num, by rw [HNX2.out]; exact HMY4.out, HB4.out⟩)
               case measure => (simp [intOf]; omega))
            | (refine ⟨?_, ?_⟩
               · (exact ⟨j + 1, hlt, by go_num, by rw [HNX2.out]; exact HMY4.out, HB4.out⟩)
               · (simp [intOf]; omega))
        · rw [hf] at HNX
          have HNX2 : Hid (nowX p m (doneX m ws) k ((leftX m ws).take (j + 1)) = nowX p m (doneX m ws) k ((leftX m ws).take j) ++ [⟨a, i, k⟩]) := Lib.hid HNX.out
          have hyy : YI ⟨a, i, k⟩ := ⟨by unfold InI; dsimp only; omega, by unfold InI; dsimp only; omega, by unfold InI; dsimp only; omega⟩
          have HYY := Lib.hid hyy
          have HLN : Hid ((nowX p m (doneX m ws) k ((leftX m ws).take j)).length + 1 = (nowX p m (doneX m ws) k ((leftX m ws).take (j + 1))).length) := Lib.hid (by rw [HNX2.out]; simp)
          have hz4 := HB4.out.size
          clear hf hyy
          go_wp2_with (at_builtin; refine wpList_appendY rfl _ _ rfl w2r.heap.size w4.heap.size _ _ (nowX p m (doneX m ws) k ((leftX m ws).take j)) [⟨a, i, k⟩] rfl rfl (HMY4.out.below (bal (Below.refl _ _) _)) (MineY.one w4 HYY.out) (by simp) (by simp; omega) (by simp; omega) ?_; intro g cap w5 hm5 hg5; have HB5 : Hid (Below w2r.heap.size w2r w5) := Lib.hid (belowY (bal HB4.out _) (HMY4.out.below (bal (Below.refl _ _) _)) hg5 (by simp; omega)); have HM5 := Lib.hid hm5; clear hm5 hg5)
          first
            | (go_roundw
               case rel => (exact ⟨j + 1, hlt, by go_num, by rw [HNX2.out]; exact HM5.out, HB5.out⟩)
               case measure => (simp [intOf]; omega))
            | (refine ⟨?_, ?_⟩
               · (exact ⟨j + 1, hlt, by go_num, by rw [HNX2.out]; exact HM5.out, HB5.out⟩)
               · (simp [intOf]; omega))
      · obtain rfl : j = (leftX m ws).length := by omega
        rw [List.take_length] at HMY hnl
        obtain ⟨now, hnow⟩ : ∃ now, nowX p m (doneX m ws) k (leftX m ws) = now := ⟨_, rfl⟩
        have HNW := Lib.hid hnow
        rw [List.take_length]
        rw [hnow] at HMY hnl ⊢
        by_cases hne : now = []
        · have HD : Hid (explX p m = ⟨ws, leftX m ws⟩) := Lib.hid (HRD.out.done (hnow.trans hne))
          subst hne
          obtain ⟨vw, ho, hmw⟩ := HS2.out.out
          obtain ⟨aw, cw, rfl⟩ := hmw.slen
          have ko := ho.cell
          have fo := ho.free
          have kres := HS2.out.res.cell
          have fres := HS2.out.res.free
          have HO := Lib.hid ho
          have HMW := Lib.hid hmw
          clear hnow ho hmw hnl
          simp only [List.length_nil]
          go_wp2_with fail
          have hord2 := HS2.out.ord
          have hres := ((HS2.out.res.setOther (b' := bo) 1 (.slice al (leftX m ws).length cl) (by omega)).set 0 (.slice aw ws.length cw)).set 1 (.slice al (leftX m ws).length cl)
          simp only [List.set_cons_zero, List.set_cons_succ] at hres
          have hsame : ∀ i, i ≠ bo → i ≠ w.heap.size + 1 → (((wr.setCell ⟨bo, 1, none⟩ (.slice al (leftX m ws).length cl)).setCell ⟨w.heap.size + 1, 0, none⟩ (.slice aw ws.length cw)).setCell ⟨w.heap.size + 1, 1, none⟩ (.slice al (leftX m ws).length cl)).heap[i]? = wr.heap[i]? := fun i h1 h2 => (Below.heap_setCell _ _ _ _ h2).trans ((Below.heap_setCell _ _ _ _ h2).trans (Below.heap_setCell _ _ _ _ h1))
          have hbel := ((HS2.out.below.setCell (p := ⟨bo, 1, none⟩) (by show w.heap.size ≤ bo; omega) (.slice al (leftX m ws).length cl)).setCell (p := ⟨w.heap.size + 1, 0, none⟩) (by show w.heap.size ≤ w.heap.size + 1; omega) (.slice aw ws.length cw)).setCell (p := ⟨w.heap.size + 1, 1, none⟩) (by show w.heap.size ≤ w.heap.size + 1; omega) (.slice al (leftX m ws).length cl)
          have kr9 := hres.cell
          rw [HD.out]
          generalize ((wr.setCell ⟨bo, 1, none⟩ (.slice al (leftX m ws).length cl)).setCell ⟨w.heap.size + 1, 0, none⟩ (.slice aw ws.length cw)).setCell ⟨w.heap.size + 1, 1, none⟩ (.slice al (leftX m ws).length cl) = W9 at *
          refine bodyPost_ret (v := .tuple #[.agg #[.slice aw ws.length cw, .slice al (leftX m ws).length cl], .int .i64 0]) ?_ rfl ⟨_, rfl, ?_, hbel⟩
          · simp [results, Tryz.f9, go_sem, kr9]
          · exact ⟨_, _, rfl, (HMW.out.same fun i h1 _ e => hsame i (fun e2 => HMW.out.far HO.out (by decide) (e2 ▸ e)) (by omega)).mono (by omega), (HS2.out.lft.same fun g h1 h2 => hsame g (by omega) (by omega)).row (by omega)⟩
        · have hn0 : 0 < now.length := List.length_pos_iff.2 hne
          have hny : ∀ y ∈ now, y.atom ∈ leftX m ws ∧ y.level = k := fun y hy => by
            rw [← hnow] at hy
            exact ⟨(nowX_mem hy).1, (nowX_mem hy).2.1⟩
          have HNY := Lib.hid hny
          have HNE : Hid (nowX p m (doneX m ws) k (leftX m ws) ≠ []) := Lib.hid (by rw [hnow]; exact hne)
          clear hnow hne hny
          obtain ⟨w3r, rfl⟩ : ∃ x : World, x = wr := ⟨_, rfl⟩
          go_wp2
          go_loopw [64] (fun i wx => Ex3Rel N ws now (bo + 1) w3r i wx) (fun i _ => now.length - (intOf i).toNat)
          case atStart => exact ⟨0, Nat.zero_le _, rfl, by rw [List.take_zero, List.append_nil]; exact HS2.out.lvd, Lim.refl _ _ _⟩
          case round =>
            obtain ⟨j, hj, rfl, hld, hlim⟩ := hrel
            have hmr : MineY w2r.heap.size (.slice an now.length cn) now wr := HMY.out.same fun i _ hi e => hlim.block i hi (by
              have := HMY.out.far HS2.out.lvd (by decide)
              rw [e] at this
              simpa using this)
            have HSL := Lib.hid (HS2.out.lev hlim hld)
            have HLD := Lib.hid hld
            have HLM := Lib.hid hlim
            have HMR3 := Lib.hid hmr
            have hz3 := hlim.size
            clear hld hlim hmr
            by_cases hlt : j < now.length
            · obtain ⟨b, off, rfl, hb, hc0, hc1, hc2⟩ := HMR3.out.at (by omega) hlt
              obtain ⟨y, hy⟩ : ∃ y, ixY now j = y := ⟨_, rfl⟩
              have hym : y ∈ now := by rw [← hy]; exact ixY_mem0 hlt
              obtain ⟨hy1, hy2⟩ := HNY.out y hym
              have hyN := HMR.out _ (List.mem_filter.1 hy1).1
              have htk : now.take (j + 1) = now.take j ++ [y] := by
                rw [List.take_succ_eq_append_getElem hlt, ← hy]
                simp only [ixY, List.getD_eq_getElem?_getD, List.getElem?_eq_getElem hlt, Option.getD_some]
              have hset := lvL_set (N := N) (ws := ws ++ now.take j) (y := y) (j := y.atom.toNat) (by omega)
              rw [hy2, List.append_assoc, ← htk] at hset
              have HSET := Lib.hid hset
              rw [hy] at hc0 hc1 hc2
              clear hy hym hy1 hy2 htk hset
              go_upto_region 24 with fail
              have hal4 := bal (Below.refl wr.heap.size wr) (.cells #[.int .i64 y.atom, .int .i64 y.rule, .int .i64 y.level] 49)
              have HS4 := Lib.hid (HSL.out.on hal4)
              have HW4 := Lib.hid (Blk.new wr [.int .i64 y.atom, .int .i64 y.rule, .int .i64 y.level] 49)
              have HL4 := Lib.hid (HLD.out.below hal4)
              have HLM4 := Lib.hid (HLM.out.trans (.of_below hal4 hz3))
              have kw4 := HW4.out.cell
              have kl4 := HS4.out.lvb.cell 0
              have kk4 := HS4.out.kbx.cell 0
              have ka4 : (wr.alloc (.cells #[.int .i64 y.atom, .int .i64 y.rule, .int .i64 y.level] 49)).cell? ⟨bo + 1, y.atom.toNat, none⟩ = some (.int .i64 (ix (lvL N (ws ++ now.take j)) y.atom.toNat)) := (HL4.out.cell _).trans (map_ix _ _ (by rw [lvL_len]; omega))
              have kf4 := HL4.out.free y.atom.toNat
              clear hal4 hc0 hc1 hc2
              generalize wr.alloc (.cells #[.int .i64 y.atom, .int .i64 y.rule, .int .i64 y.level] 49) = W4 at *
              go_wp2_with fail
              have hnew : Blk (W4.setCell ⟨bo + 1, y.atom.toNat, none⟩ (.int .i64 (k : Int))) (bo + 1) ((lvL N (ws ++ now.take (j + 1))).map (Value.int .i64)) 3 := by
                have := HL4.out.set y.atom.toNat (.int .i64 (k : Int))
                rw [mapI_setL, HSET.out] at this
                exact this
              have HNEW := Lib.hid hnew
              clear hnew
              first
                | (go_roundw
                   case rel => (exact ⟨j + 1, hlt, by go_num, HNEW.out, HLM4.out.trans (.setCell _ (.inl (by simp)))⟩)
                   case measure => (simp [intOf]; omega))
                | (refine ⟨?_, ?_⟩
                   · (exact ⟨j + 1, hlt, by go_num, HNEW.out, HLM4.out.trans (.setCell _ (.inl (by simp)))⟩)
                   · (simp [intOf]; omega))
            · obtain rfl : j = now.length := by omega
              rw [List.take_length] at HSL HLD
              obtain ⟨vw, ho, hmw⟩ := HSL.out.out
              obtain ⟨aw, cw, rfl⟩ := hmw.slen
              have hlw : ws.length + now.length ≤ 1000000000 := by omega
              have ko := ho.cell 0
              have hord2 := HSL.out.ord
              have HO := Lib.hid ho
              have HMW := Lib.hid hmw
              have hBw := HSL.out.bw
              clear ho hmw
              go_upto_region 27 with (at_builtin; refine wpList_appendY rfl _ _ rfl (kb0 + 1) w2r.heap.size _ _ ws now rfl rfl HMW.out HMR3.out hn0 hlw hBw ?_; intro g cap w5 hm5 hg5; have HP5 := Lib.hid (HSL.out.push HO.out HMW.out hg5 (ws := ws ++ now) (by simpa using hm5)); have ko5 := (HO.out.same (hg5.block bo HO.out.lt fun e => HMW.out.far HO.out (by decide) e.symm)).cell 0; have fo5 := (HO.out.same (hg5.block bo HO.out.lt fun e => HMW.out.far HO.out (by decide) e.symm)).free 0; clear hm5 hg5)
              have HST5 : Hid (XpSt w (.slice am m.length cm) p N vn vs (.slice a1 p.rules.length c1) vm bo (bo + 1) (bo + 1 + 1) bd (z5 + 2) z5 (z5 + 1) (kb0 + 1) k kb (ws ++ now) (ws ++ now) (leftX m ws) (.slice al (leftX m ws).length cl) (w5.setCell ⟨bo, 0, none⟩ (.slice (some ⟨g, 0, none⟩) (ws.length + now.length) cap))) := HP5
              have hly : ∀ y ∈ ws ++ now, 1 ≤ y.level ∧ InI y.level := fun y hy => by
                rcases List.mem_append.1 hy with hy | hy
                · exact ⟨(HRD.out.lev y hy).1, HYL.out y hy⟩
                · exact ⟨by rw [(HNY.out y hy).2]; omega, (HMR3.out.2 y hy).2.2⟩
              have HLY := Lib.hid hly
              generalize w5.setCell ⟨bo, 0, none⟩ (.slice (some ⟨g, 0, none⟩) (ws.length + now.length) cap) = W6 at *
              have hleft : leftX m ws ≠ [] := fun e => by
                obtain ⟨y, hy⟩ := List.exists_mem_of_length_pos hn0
                have := (HNY.out y hy).1
                rw [e] at this; cases this
              rcases HST5.out.lft with ⟨-, h9⟩ | ⟨gl, cl9, D, e9, hlo, hhi, hD, hDc, hDf, hDn, hDl, hDm, hD8⟩
              · exact absurd h9 hleft
              simp only [Value.slice.injEq, true_and] at e9
              obtain ⟨rfl, rfl⟩ := e9
              have HD9 := Lib.hid hD
              have HDC := Lib.hid hDc
              have HDF := Lib.hid hDf
              have HSUB : Hid (∀ x ∈ leftX m ws, x ∈ m) := Lib.hid fun x hx => (List.mem_filter.1 hx).1
              have hgb : bo + 1 + 1 ≠ gl := HST5.out.lvb.tyNe2 hD (by decide)
              clear hD hDc hDf hly ko5 fo5 ko HP5
              go_upto_region 28 with (go_at_call 42; (with_reducible refine (ex2_del HMR.out hN4 HLY.out HSUB.out HD9.out HDC.out HDF.out ⟨hDn, hDl, hDm⟩ hD8 HST5.out.lvb HST5.out.lvd (Nat.ne_of_lt hlo) hgb).mono ?_); rintro e w7 ⟨e7, ⟨D', hD', hlen7, hc7, hf7⟩, hl7⟩; rw [leftX_all] at e7 hc7 hf7; subst e7; have HD7 := Lib.hid hD'; have HC7 := Lib.hid hc7; have HF7 := Lib.hid hf7; have HL7 := Lib.hid hl7; clear hD' hc7 hf7 hl7)
              have HLT : Hid ((leftX m (ws ++ now)).length < (leftX m ws).length) := Lib.hid (by have := leftX_lt HNE.out; rw [HNW.out] at this; exact this)
              have hlt7 := HLT.out
              have HS7 := Lib.hid (HST5.out.strike rfl hlo hhi HD9.out HL7.out HD7.out hlen7 HC7.out HF7.out (by omega) (by omega))
              have kk7 := HS7.out.kbx.cell 0
              have HS8 := Lib.hid HS7.out.next
              go_wp2_with fail
              have HRN : Hid (RndX p m (k + 1) (ws ++ now)) := Lib.hid (by have := HRD.out.next HND.out HNE.out; rw [HNW.out] at this; exact this)
              have HYN : Hid (∀ y ∈ ws ++ now, YI y) := Lib.hid fun y hy => (List.mem_append.1 hy).elim (HYI.out y) (HMR3.out.2 y)
              have hkk : k + 1 ≤ (ws ++ now).length + 1 := by rw [List.length_append]; omega
              first
                | (go_roundw
                   case rel => (exact ⟨k + 1, ws ++ now, w7.heap.size, rfl, HRN.out, hkk, HYN.out, HS8.out⟩)
                   case measure => (simp only [lenOf]; omega))
                | (refine ⟨?_, ?_⟩
                   · (exact ⟨k + 1, ws ++ now, w7.heap.size, rfl, HRN.out, hkk, HYN.out, HS8.out⟩)
                   · (simp only [lenOf]; omega))
structure VlSt (w : World) (vset : Value) (p : GP) (m : List Int) (x : XP) (N : Nat) (vn vs vr vm vw vx : Value) (W : World) : Prop where
  pbx : Blk W w.heap.size [.int .i64 (N : Int), vn, vs, vr, vm] 27
  xbx : Blk W (w.heap.size + 1) [vw, vx] 30
  rul : RulesIs W vr p.rules
  set : Ints W vset m
  whs : WhysIs W vw x.whys
  rst : Ints W vx x.rest
  below : Below w.heap.size w W
theorem VlSt.on {w W W' : World} {vset : Value} {p : GP} {m : List Int} {x : XP} {N : Nat} {vn vs vr vm vw vx : Value} (h : VlSt w vset p m x N vn vs vr vm vw vx W) (hb : Below W.heap.size W W') : VlSt w vset p m x N vn vs vr vm vw vx W' :=
  ⟨h.pbx.below hb, h.xbx.below hb, h.rul.below hb, h.set.below hb, h.whs.below hb, h.rst.below hb, bon h.below hb⟩
theorem WhysIs.at {a : Option Addr} {n c k : Nat} {l : List WY} {w : World} (h : WhysIs w (.slice a n c) l) (hk : k < l.length) : ∃ b off, a = some ⟨b, off, none⟩ ∧ b < w.heap.size ∧ WhyCells w b (off + k * 3) (ixY l k) := by
  obtain ⟨a1, c1, e, -, -, -, hc⟩ := h.form
  simp only [Value.slice.injEq] at e
  obtain ⟨rfl, -, rfl⟩ := e
  obtain ⟨b, off, e, hb, hcc⟩ := hc (by omega)
  exact ⟨b, off, e, hb, hcc k hk⟩
theorem chkX_false1 {p : GP} {m : List Int} {x : XP} {j : Nat} (hj : j < x.whys.length) (h : rngY p (ixY x.whys j) = false) : chkX p m x = false := by
  unfold chkX; rw [allR_false j hj h, Bool.false_and]
set_option maxHeartbeats 8000000 in
set_option maxRecDepth 100000 in
theorem validX_any (v vset vx : Value) (p : GP) (m : List Int) (x : XP) (w : World) (h : ProgIs w v p) (hm : Ints w vset m) (hx : ExplIs w vx x) (hv : validE p = 0) (hset : setQ p.n m = true) (hw : x.whys.length ≤ 500) :
    Calls Tryz.prog 44 #[v, vset, vx] w fun e w' => e = .returned (.bool (chkX p m x)) ∧ Below w.heap.size w w' := by
  have hn0 := (validP hv).n
  obtain ⟨N, hN⟩ : ∃ N : Nat, p.n = N := ⟨p.n.toNat, by omega⟩
  have hN4 : N ≤ 4000 := by omega
  have hmr : ∀ x ∈ m, 1 ≤ x ∧ x ≤ (N : Int) := fun x hx => by have := setQ_rng hset hx; omega
  have hsrt := setQ_sorted hset
  have hml : m.length ≤ 4000 := by have := inc_le hset hn0.1; omega
  have hP0 := h
  obtain ⟨vn, vs, vr, vm, rfl, hps⟩ := h
  obtain ⟨vw, vq, rfl, hwh, hrs⟩ := hx
  obtain ⟨am, cm, rfl, -⟩ := id hm.form
  obtain ⟨a1, c1, rfl, -, hl1, -, -⟩ := hps.rules.form
  obtain ⟨a2, c2, rfl, -, hl2, -, -⟩ := hwh.form
  obtain ⟨a3, c3, rfl, -, hl3, -, -⟩ := id hrs.form
  have hr8 : x.rest.length * 8 ≤ 140737488351232 := by obtain ⟨⟨_, _, _, _, _, h, _⟩, _⟩ := hrs; exact h
  have hal := bal (bal (Below.refl w.heap.size w) (.cells #[.int .i64 p.n, vn, vs, .slice a1 p.rules.length c1, vm] 27)) (.cells #[.slice a2 x.whys.length c2, .slice a3 x.rest.length c3] 30)
  have HS0 : Hid (VlSt w (.slice am m.length cm) p m x N vn vs (.slice a1 p.rules.length c1) vm (.slice a2 x.whys.length c2) (.slice a3 x.rest.length c3) ((w.alloc (.cells #[.int .i64 p.n, vn, vs, .slice a1 p.rules.length c1, vm] 27)).alloc (.cells #[.slice a2 x.whys.length c2, .slice a3 x.rest.length c3] 30))) := Lib.hid
    ⟨by rw [hN]; exact (Blk.new w [.int .i64 (N : Int), vn, vs, .slice a1 p.rules.length c1, vm] _).alloc _, Blk.new2 w _ [.slice a2 x.whys.length c2, .slice a3 x.rest.length c3] _, (hps.rules).below hal, hm.below hal, hwh.below hal, hrs.below hal, hal⟩
  have hmk : ∀ w : World, (Instr.makeSlice 23 (.int .i64 ((N : Int) + 1)) (.int .i64 ((N : Int) + 1))).run Tryz.prog w = .ok (.slice (some ⟨w.heap.size, 0, none⟩) (N + 1) (N + 1)) (w.alloc (.cells (madeCells #[.int .i64 0] (N + 1)) 3)) := fun w => run_make_row' _ _ _ _ Tryz.underlying23 infoI rfl .i64 .i64 (N + 1) (by omega) (by omega) w
  have hwI := hwh.2
  have HWI := Lib.hid hwI
  have HV := Lib.hid hv
  have HN := Lib.hid hN
  have HMR := Lib.hid hmr
  have HSRT := Lib.hid hsrt
  clear hP0 hps hwh hrs hm hal hv hset hn0 hN hmr hsrt hwI
  go_enter Tryz.func44, Tryz.ntmps44
  go_upto_region 1 with fail
  have kp0 := HS0.out.pbx.cell
  have kx0 := HS0.out.xbx.cell
  generalize (w.alloc (.cells #[.int .i64 p.n, vn, vs, .slice a1 p.rules.length c1, vm] 27)).alloc (.cells #[.slice a2 x.whys.length c2, .slice a3 x.rest.length c3] 30) = W0 at *
  go_upto_region 2 with fail
  have hal1 := bal (Below.refl W0.heap.size W0) (.cells (madeCells #[.int .i64 0] (N + 1)) 3)
  have hl5 : Blk (W0.alloc (.cells (madeCells #[.int .i64 0] (N + 1)) 3)) W0.heap.size ((lvL N []).map (Value.int .i64)) 3 := by
    have := Blk.new W0 (List.replicate (N + 1) (Value.int .i64 0)) 3
    rw [← made_list] at this
    have e : (lvL N []).map (Value.int .i64) = List.replicate (N + 1) (Value.int .i64 0) := by
      apply List.ext_getElem (by simp [lvL])
      intro i h1 h2
      simp [lvL, lvF_nil]
    rw [e]; exact this
  have hz1 : (W0.alloc (.cells (madeCells #[.int .i64 0] (N + 1)) 3)).heap.size = W0.heap.size + 1 := by simp
  have HZ1 := Lib.hid hz1
  have HS1 := Lib.hid (HS0.out.on hal1)
  have HL1 := Lib.hid hl5
  have HAL1 := Lib.hid hal1
  have kx1 := HS1.out.xbx.cell
  clear hmk hal1 hl5 hz1 kp0 kx0
  generalize W0.alloc (.cells (madeCells #[.int .i64 0] (N + 1)) 3) = W1 at *
  go_upto_region 3 with (go_at_call 39; (with_reducible refine (cloneI_sl _ x.rest _ HS1.out.rst).mono ?_); rintro e w2 ⟨a8, c8, rfl, ho8, hb8⟩; have HO2 := Lib.hid ho8; have HB2 := Lib.hid hb8; have HS2 := Lib.hid (HS1.out.on hb8); have kx2 := HS2.out.xbx.cell; clear ho8 hb8)
  have hst : VlRel p x N W0 (.slice a8 x.rest.length c8) (.int .i64 0) w2 := by
    refine ⟨0, Nat.zero_le _, rfl, fun q hq => absurd hq (Nat.not_lt_zero _), ?_, ?_, bon HAL1.out HB2.out⟩
    · rw [List.take_zero]; exact HL1.out.below HB2.out
    · have := HO2.out.ownL
      rw [HZ1.out] at this
      simpa [atomsY] using this
  have HST := Lib.hid hst
  clear hst kx1
  go_wp2
  go_loopw [8, 22] (fun va i wx => VlRel p x N W0 va i wx) (fun _ i _ => x.whys.length - (intOf i).toNat)
  case atStart => exact HST.out
  case round =>
    obtain ⟨j, hj, rfl, hrg, hld, hall, hbl⟩ := hrel
    obtain ⟨L, hL⟩ : ∃ L, x.rest ++ atomsY (x.whys.take j) = L := ⟨_, rfl⟩
    rw [hL] at hall
    obtain ⟨aL, cL, rfl⟩ := hall.slen
    have HRP := Lib.hid hrg
    have HLD := Lib.hid hld
    have HAR := Lib.hid hall
    have HBR := Lib.hid hbl
    have HSR := Lib.hid (HS0.out.on hbl)
    have hsz := hld.lt
    have hlA : L.length ≤ x.rest.length + j := by
      rw [← hL]
      unfold atomsY
      rw [List.length_append, List.length_map, List.length_take]
      omega
    have HLL := Lib.hid hL
    clear hrg hld hall hbl hL
    by_cases hlt : j < x.whys.length
    · obtain ⟨b, off, rfl, hb, hc0, hc1, hc2⟩ := HSR.out.whs.at hlt
      obtain ⟨hI0, hI1, hI2⟩ := HWI.out _ (ixY_mem0 hlt)
      obtain ⟨y, hy⟩ : ∃ y, ixY x.whys j = y := ⟨_, rfl⟩
      have htk : x.whys.take (j + 1) = x.whys.take j ++ [y] := by
        rw [List.take_succ_eq_append_getElem hlt, ← hy]
        simp only [ixY, List.getD_eq_getElem?_getD, List.getElem?_eq_getElem hlt, Option.getD_some]
      rw [hy] at hc0 hc1 hc2 hI0 hI1 hI2
      have HY := Lib.hid hy
      have HTK := Lib.hid htk
      unfold InI at hI0 hI1 hI2
      clear hy htk
      go_upto_region 6 with fail
      have hal3 := bal (Below.refl wr.heap.size wr) (.cells #[.int .i64 y.atom, .int .i64 y.rule, .int .i64 y.level] 49)
      have HS3 := Lib.hid (HSR.out.on hal3)
      have HW3 := Lib.hid (Blk.new wr [.int .i64 y.atom, .int .i64 y.rule, .int .i64 y.level] 49)
      have HL3 := Lib.hid (HLD.out.below hal3)
      have HA3 := Lib.hid (HAR.out.below hal3)
      have HB3 := Lib.hid (bon HBR.out hal3)
      have kw3 := HW3.out.cell
      have kp3 := HS3.out.pbx.cell
      have hz3 : wr.heap.size < (wr.alloc (.cells #[.int .i64 y.atom, .int .i64 y.rule, .int .i64 y.level] 49)).heap.size := by simp
      clear hal3 hc0 hc1 hc2 hb
      generalize wr.alloc (.cells #[.int .i64 y.atom, .int .i64 y.rule, .int .i64 y.level] 49) = W3 at *
      by_cases g1 : y.atom < 1
      · have HRG : Hid (rngY p (ixY x.whys j) = false) := Lib.hid (by rw [HY.out]; unfold rngY; rw [decide_eq_false (by omega), Bool.false_and])
        go_wp2_with fail
        go_ret
        exact ⟨ret_bool (chkX_false1 hlt HRG.out).symm, HS3.out.below⟩
      by_cases g2 : (N : Int) < y.atom
      · have HRG : Hid (rngY p (ixY x.whys j) = false) := Lib.hid (by rw [HY.out]; unfold rngY; rw [decide_eq_false (show ¬ y.atom ≤ p.n by have := HN.out; omega)]; simp)
        go_wp2_with fail
        go_ret
        exact ⟨ret_bool (chkX_false1 hlt HRG.out).symm, HS3.out.below⟩
      by_cases g3 : y.rule < 0
      · have HRG : Hid (rngY p (ixY x.whys j) = false) := Lib.hid (by rw [HY.out]; unfold rngY; rw [decide_eq_false (show ¬ 0 ≤ y.rule by omega)]; simp)
        go_wp2_with fail
        go_ret
        exact ⟨ret_bool (chkX_false1 hlt HRG.out).symm, HS3.out.below⟩
      by_cases g4 : (p.rules.length : Int) ≤ y.rule
      · have HRG : Hid (rngY p (ixY x.whys j) = false) := Lib.hid (by rw [HY.out]; unfold rngY; rw [decide_eq_false (show ¬ y.rule < p.rules.length by omega)]; simp)
        go_wp2_with fail
        go_ret
        exact ⟨ret_bool (chkX_false1 hlt HRG.out).symm, HS3.out.below⟩
      by_cases g5 : y.level < 1
      · have HRG : Hid (rngY p (ixY x.whys j) = false) := Lib.hid (by rw [HY.out]; unfold rngY; rw [decide_eq_false (show ¬ 1 ≤ y.level by omega)]; simp)
        go_wp2_with fail
        go_ret
        exact ⟨ret_bool (chkX_false1 hlt HRG.out).symm, HS3.out.below⟩
      have HRN : Hid (∀ q, q < j + 1 → rngY p (ixY x.whys q) = true) := Lib.hid fun q hq => by
        by_cases e : q = j
        · subst e
          rw [HY.out]
          unfold rngY
          have := HN.out
          simp only [Bool.and_eq_true, decide_eq_true_eq]
          omega
        · exact HRP.out q (by omega)
      have ka3 : W3.cell? ⟨W0.heap.size, y.atom.toNat, none⟩ = some (.int .i64 (ix (lvL N (x.whys.take j)) y.atom.toNat)) := (HL3.out.cell _).trans (map_ix _ _ (by rw [lvL_len]; omega))
      have kf3 := HL3.out.free y.atom.toNat
      have hnew : Blk (W3.setCell ⟨W0.heap.size, y.atom.toNat, none⟩ (.int .i64 y.level)) W0.heap.size ((lvL N (x.whys.take (j + 1))).map (Value.int .i64)) 3 := by
        have := HL3.out.set y.atom.toNat (.int .i64 y.level)
        rw [mapI_setL, lvL_set (by omega), ← HTK.out] at this
        exact this
      have hA4 : OwnL (W0.heap.size + 1) (W3.setCell ⟨W0.heap.size, y.atom.toNat, none⟩ (.int .i64 y.level)) (.slice aL L.length cL) L := HA3.out.same fun i hi _ _ => Below.heap_setCell _ _ _ _ (show i ≠ W0.heap.size by omega)
      have hB4 : Below W0.heap.size W0 (W3.setCell ⟨W0.heap.size, y.atom.toNat, none⟩ (.int .i64 y.level)) := HB3.out.setCell (p := ⟨W0.heap.size, y.atom.toNat, none⟩) (by show W0.heap.size ≤ W0.heap.size; exact Nat.le_refl _) _
      have HNEW := Lib.hid hnew
      have HA4 := Lib.hid hA4
      have HB4 := Lib.hid hB4
      have hw4 := HW3.out.setOther (b' := W0.heap.size) y.atom.toNat (.int .i64 y.level) (by omega)
      have kw4 := hw4.cell
      clear hnew hA4 hB4 hw4
      go_upto_region 9 with fail
      generalize W3.setCell ⟨W0.heap.size, y.atom.toNat, none⟩ (.int .i64 y.level) = W4 at *
      have hz4 := HNEW.out.lt
      have HI0 : Hid (InI y.atom) := Lib.hid (by unfold InI; exact hI0)
      go_wp2_with (at_builtin; refine wpList_appendO rfl _ _ rfl (W0.heap.size + 1) W4.heap.size _ L y.atom rfl rfl (HA4.out.below (bal (Below.refl _ _) _)) (Blk.new W4 [.int .i64 y.atom] _) HI0.out (by omega) (by simp; omega) ?_; intro g cap w5 hm5 hg5; have HM5 := Lib.hid hm5; have HB5 : Hid (Below W0.heap.size W0 w5) := Lib.hid ((bal HB4.out _).trans ⟨hg5.os, hg5.tape, hg5.output, hg5.size, fun i hi => hg5.block i (by have := HB4.out.size; simp; omega) fun e => by have := ((HA4.out.below (bal (Below.refl _ _) (.cells #[.int .i64 y.atom] 3))).lt e.symm).1; omega⟩); have HN5 := Lib.hid ((HNEW.out.alloc (.cells #[.int .i64 y.atom] 3)).same (hg5.block _ (HNEW.out.alloc (.cells #[.int .i64 y.atom] 3)).lt fun e => by have := ((HA4.out.below (bal (Below.refl _ _) (.cells #[.int .i64 y.atom] 3))).lt e.symm).1; omega)); clear hm5 hg5)
      have hatm : x.rest ++ atomsY (x.whys.take (j + 1)) = L ++ [y.atom] := by
        rw [HTK.out, ← HLL.out, List.append_assoc]; congr 1; simp [atomsY]
      have HATM := Lib.hid hatm
      clear hatm
      first
        | (go_roundw
           case rel => (exact ⟨j + 1, hlt, by go_num, HRN.out, HN5.out, by rw [HATM.out]; exact HM5.out, HB5.out⟩)
           case measure => (simp [intOf]; omega))
        | (refine ⟨?_, ?_⟩
           · (exact ⟨j + 1, hlt, by go_num, HRN.out, HN5.out, by rw [HATM.out]; exact HM5.out, HB5.out⟩)
           · (simp [intOf]; omega))
    · obtain rfl : j = x.whys.length := by omega
      rw [List.take_length] at HLD HLL
      have hall : Hid (allR x.whys.length (fun i => rngY p (ixY x.whys i)) = true) := Lib.hid (allR_true HRP.out)
      have HPERM := Lib.hid (srt_eq (L := L) HSRT.out)
      obtain ⟨b1, hb1⟩ : ∃ b, decide (srt L = m) = b := ⟨_, rfl⟩
      obtain ⟨b2, hb2⟩ : ∃ b, allR (x.rest.length - 1) (fun i => decide (ix x.rest i ≤ ix x.rest (i + 1))) = b := ⟨_, rfl⟩
      obtain ⟨b3, hb3⟩ : ∃ b, allR (x.whys.length - 1) (fun i => ordY (ixY x.whys i) (ixY x.whys (i + 1))) = b := ⟨_, rfl⟩
      have HC : Hid (chkX p m x = (b1 && (b2 && (b3 && allR x.whys.length (fun i => derT (lvT m (lvL p.n.toNat x.whys) ((ixY x.whys i).level - 1)) m (ixR p.rules (ixY x.whys i).rule.toNat) (ixY x.whys i).atom))))) := Lib.hid (by
        unfold chkX
        rw [hall.out, Bool.true_and, HLL.out, ← HPERM.out, hb1, hb2, hb3])
      have H1 := Lib.hid hb1
      have H2 := Lib.hid hb2
      have H3 := Lib.hid hb3
      have hsl := sortI_len L
      have HSL := Lib.hid hsl
      clear hb1 hb2 hb3 hsl
      go_upto_region 12 with (go_at_call 46; (with_reducible refine (sortL_own HAR.out).mono ?_); rintro e w6 ⟨rfl, ho6, hg6⟩; have HO6 := Lib.hid ho6; have HB6 : Hid (Below W0.heap.size W0 w6) := Lib.hid (HBR.out.trans ⟨hg6.os, hg6.tape, hg6.output, hg6.size, fun i hi => hg6.block i (by have := HBR.out.size; omega) fun e => by have := (HAR.out.lt e.symm).1; omega⟩); have HL6 := Lib.hid (HLD.out.same (hg6.block _ HLD.out.lt fun e => by have := (HAR.out.lt e.symm).1; omega)); clear ho6 hg6)
      have HS6 := Lib.hid (HS0.out.on HB6.out)
      have kx6 := HS6.out.xbx.cell
      clear kx2
      cases b1 with
      | false =>
        go_wp2_with (go_at_call 91; (with_reducible refine (sEqualL_any _ _ (srt L) m (W0.heap.size + 1) w6 HO6.out HS6.out.set (by omega)).mono ?_); rintro e w7 ⟨e7, hb7⟩; rw [H1.out] at e7; subst e7; have HS7 := Lib.hid (HS6.out.on hb7); have HL7 := Lib.hid (HL6.out.below hb7); have kx7 := HS7.out.xbx.cell; clear hb7)
        go_ret
        exact ⟨ret_bool (HC.out.trans (Bool.false_and _)).symm, HS7.out.below⟩
      | true =>
        cases b2 with
        | false =>
          go_wp2_with (first | (go_at_call 91; (with_reducible refine (sEqualL_any _ _ (srt L) m (W0.heap.size + 1) w6 HO6.out HS6.out.set (by omega)).mono ?_); rintro e w7 ⟨e7, hb7⟩; rw [H1.out] at e7; subst e7; have HS7 := Lib.hid (HS6.out.on hb7); have HL7 := Lib.hid (HL6.out.below hb7); have kx7 := HS7.out.xbx.cell; clear hb7) | (go_at_call 92; (with_reducible refine (isSorted_any _ x.rest w7 HS7.out.rst).mono ?_); rintro e w8 ⟨e8, hb8⟩; rw [H2.out] at e8; subst e8; have HS8 := Lib.hid (HS7.out.on hb8); have HL8 := Lib.hid (HL7.out.below hb8); have kx8 := HS8.out.xbx.cell; clear hb8))
          go_ret
          exact ⟨ret_bool (HC.out.trans rfl).symm, HS8.out.below⟩
        | true =>
          cases b3 with
          | false =>
            go_wp2_with (first | (go_at_call 91; (with_reducible refine (sEqualL_any _ _ (srt L) m (W0.heap.size + 1) w6 HO6.out HS6.out.set (by omega)).mono ?_); rintro e w7 ⟨e7, hb7⟩; rw [H1.out] at e7; subst e7; have HS7 := Lib.hid (HS6.out.on hb7); have HL7 := Lib.hid (HL6.out.below hb7); have kx7 := HS7.out.xbx.cell; clear hb7) | (go_at_call 92; (with_reducible refine (isSorted_any _ x.rest w7 HS7.out.rst).mono ?_); rintro e w8 ⟨e8, hb8⟩; rw [H2.out] at e8; subst e8; have HS8 := Lib.hid (HS7.out.on hb8); have HL8 := Lib.hid (HL7.out.below hb8); have kx8 := HS8.out.xbx.cell; clear hb8) | (go_at_call 93; (with_reducible refine (ordered_anyY _ x.whys w8 HS8.out.whs).mono ?_); rintro e w9 ⟨e9, hb9⟩; rw [H3.out] at e9; subst e9; have HS9 := Lib.hid (HS8.out.on hb9); have HL9 := Lib.hid (HL8.out.below hb9); have kx9 := HS9.out.xbx.cell; clear hb9))
            go_ret
            exact ⟨ret_bool (HC.out.trans rfl).symm, HS9.out.below⟩
          | true =>
            go_upto_region 14 with (first | (go_at_call 91; (with_reducible refine (sEqualL_any _ _ (srt L) m (W0.heap.size + 1) w6 HO6.out HS6.out.set (by omega)).mono ?_); rintro e w7 ⟨e7, hb7⟩; rw [H1.out] at e7; subst e7; have HS7 := Lib.hid (HS6.out.on hb7); have HL7 := Lib.hid (HL6.out.below hb7); have kx7 := HS7.out.xbx.cell; clear hb7) | (go_at_call 92; (with_reducible refine (isSorted_any _ x.rest w7 HS7.out.rst).mono ?_); rintro e w8 ⟨e8, hb8⟩; rw [H2.out] at e8; subst e8; have HS8 := Lib.hid (HS7.out.on hb8); have HL8 := Lib.hid (HL7.out.below hb8); have kx8 := HS8.out.xbx.cell; clear hb8) | (go_at_call 93; (with_reducible refine (ordered_anyY _ x.whys w8 HS8.out.whs).mono ?_); rintro e w9 ⟨e9, hb9⟩; rw [H3.out] at e9; subst e9; have HS9 := Lib.hid (HS8.out.on hb9); have HL9 := Lib.hid (HL8.out.below hb9); have kx9 := HS9.out.xbx.cell; clear hb9))
            go_upto_region 15 with (go_at_call 38; (with_reducible refine (deriver_any _ _ m w9 HS9.out.set ⟨_, _, _, rfl⟩).mono ?_); rintro e w10 ⟨rfl, hi10, hm10, hl10, hb10⟩; have HI10 := Lib.hid hi10; have HM10 := Lib.hid hm10; have HL10 := Lib.hid hl10; have HB10 := Lib.hid hb10; clear hi10 hm10 hl10 hb10)
            have hal11 := bal (Below.refl w10.heap.size w10) (.cells #[.func (.func 88) #[] #[.pointer (some ⟨w9.heap.size + 2, 0, none⟩), .pointer (some ⟨w9.heap.size + 1, 0, none⟩)]] 76)
            have hb911 : Below w9.heap.size w9 (w10.alloc (.cells #[.func (.func 88) #[] #[.pointer (some ⟨w9.heap.size + 2, 0, none⟩), .pointer (some ⟨w9.heap.size + 1, 0, none⟩)]] 76)) := bon HB10.out hal11
            have HS11 := Lib.hid (HS9.out.on hb911)
            have hdv : DvF (w10.alloc (.cells #[.func (.func 88) #[] #[.pointer (some ⟨w9.heap.size + 2, 0, none⟩), .pointer (some ⟨w9.heap.size + 1, 0, none⟩)]] 76)) w10.heap.size (w9.heap.size + 2) w9.heap.size (w9.heap.size + 1) m (lvL N x.whys) :=
              ⟨Blk.new w10 [.func (.func 88) #[] #[.pointer (some ⟨w9.heap.size + 2, 0, none⟩), .pointer (some ⟨w9.heap.size + 1, 0, none⟩)]] _, ⟨HI10.out.below hal11, ⟨_, HM10.out.below hal11, HS11.out.set⟩, HSRT.out⟩, _, HL10.out.below hal11, lv_ints (HL9.out.below hb911) (fun y hy => (HWI.out y hy).2.2) hN4⟩
            have HDV := Lib.hid hdv
            have kx11 := HS11.out.xbx.cell
            have HN0 : Hid (p.n.toNat = N) := Lib.hid (by have := HN.out; omega)
            clear hal11 hb911 hdv kx6
            generalize w10.alloc (.cells #[.func (.func 88) #[] #[.pointer (some ⟨w9.heap.size + 2, 0, none⟩), .pointer (some ⟨w9.heap.size + 1, 0, none⟩)]] 76) = W11 at *
            have HCT : Hid (∀ w', Below W11.heap.size W11 w' → ∀ j, j < x.whys.length → Calls Tryz.prog 95 #[.agg #[.int .i64 (ixY x.whys j).atom, .int .i64 (ixY x.whys j).rule, .int .i64 (ixY x.whys j).level], .pointer (some ⟨w10.heap.size, 0, none⟩), .pointer (some ⟨w.heap.size, 0, none⟩)] w' fun e w'' => e = .returned (.bool (!derT (lvT m (lvL N x.whys) ((ixY x.whys j).level - 1)) m (ixR p.rules (ixY x.whys j).rule.toNat) (ixY x.whys j).atom)) ∧ Below w'.heap.size w' w'') := Lib.hid fun w' hb j hj => by
              have hr := allR_get hall.out j hj
              unfold rngY at hr
              simp only [Bool.and_eq_true, decide_eq_true_eq] at hr
              exact vc_any (ixY x.whys j) p m (lvL N x.whys) _ vn vs _ vm _ _ _ _ _ w' (HDV.out.below hb) (HS11.out.pbx.below hb) (HS11.out.rul.below hb) HV.out ⟨hr.2.2.1, hr.2.2.2.1⟩ ⟨hr.2.2.2.2, (HWI.out _ (ixY_mem0 hj)).2.2⟩ (fun z hz => by have := HMR.out z hz; rw [lvL_len]; omega)
            go_wp2_with (go_at_call 94; (with_reducible refine (ctnY_vc _ x.whys W11 HS11.out.whs (fun j => !derT (lvT m (lvL N x.whys) ((ixY x.whys j).level - 1)) m (ixR p.rules (ixY x.whys j).rule.toNat) (ixY x.whys j).atom) _ _ HCT.out).mono ?_); rintro e w12 ⟨rfl, hb12⟩; have HS12 := Lib.hid (HS11.out.on hb12); clear hb12)
            go_ret
            refine ⟨ret_bool ?_, HS12.out.below⟩
            rw [HC.out, HN0.out, allR_not]
            rfl
set_option maxHeartbeats 2000000 in
set_option maxRecDepth 100000 in
theorem checkX_any (v vset vx : Value) (p : GP) (m : List Int) (x : XP) (w : World) (h : ProgIs w v p) (hm : Ints w vset m) (hx : ExplIs w vx x) (hw : x.whys.length ≤ 500) :
    Calls Tryz.prog 10 #[v, vset, vx] w fun e w' => e = .returned (.tuple #[.bool (decide (xE p m = 0) && chkX p m x), .int .i64 (xE p m)]) ∧ Below w.heap.size w w' := by
  have h0 := h
  have hx0 := hx
  obtain ⟨vn, vs, vr, vm, rfl, hps⟩ := h
  obtain ⟨vw, vq, rfl, hwh, hrs⟩ := hx
  obtain ⟨am, cm, rfl, -⟩ := id hm.form
  obtain ⟨a2, c2, rfl, -⟩ := hwh.form
  obtain ⟨a3, c3, rfl, -⟩ := hrs.form
  have hal := bal (bal (Below.refl w.heap.size w) (.cells #[.int .i64 p.n, vn, vs, vr, vm] 27)) (.cells #[.slice a2 x.whys.length c2, .slice a3 x.rest.length c3] 30)
  have hb1 := (Blk.new w [.int .i64 p.n, vn, vs, vr, vm] 27).alloc (.cells #[.slice a2 x.whys.length c2, .slice a3 x.rest.length c3] 30)
  have hb2 := Blk.new2 w (.cells #[.int .i64 p.n, vn, vs, vr, vm] 27) [.slice a2 x.whys.length c2, .slice a3 x.rest.length c3] 30
  have HP := Lib.hid (h0.below hal)
  have HM := Lib.hid (hm.below hal)
  have HX := Lib.hid (hx0.below hal)
  have HB1 := Lib.hid hb1
  have HB2 := Lib.hid hb2
  have HAL := Lib.hid hal
  clear h0 hx0 hps hwh hrs hm hal hb1 hb2
  go_enter Tryz.func10, Tryz.ntmps10
  go_upto_region 1 with fail
  have k1 := HB1.out.cell
  have k2 := HB2.out.cell
  generalize (w.alloc (.cells #[.int .i64 p.n, vn, vs, vr, vm] 27)).alloc (.cells #[.slice a2 x.whys.length c2, .slice a3 x.rest.length c3] 30) = W0 at *
  by_cases he : xE p m = 0
  · have HE := Lib.hid he
    obtain ⟨hv, hset, -⟩ := xE_ok he
    have HV := Lib.hid hv
    have HST := Lib.hid hset
    clear he hv hset
    go_wp2_with (first
      | (go_at_call 37; (with_reducible refine (xcheck_any _ _ p m _ HP.out HM.out).mono ?_); rintro e w1 ⟨e1, hb1⟩; rw [HE.out] at e1; subst e1; have kk1 := (HB1.out.below hb1).cell; have kk2 := (HB2.out.below hb1).cell; have HBB := Lib.hid hb1; clear hb1)
      | (go_at_call 44; (with_reducible refine (validX_any _ _ _ p m x _ (HP.out.below HBB.out) (HM.out.below HBB.out) (HX.out.below HBB.out) HV.out HST.out hw).mono ?_); rintro e w2 ⟨rfl, hb2⟩))
    go_ret2
    exact ⟨by simp [HE.out], bon (bon HAL.out HBB.out) hb2⟩
  · have hne : (xE p m != 0) = true := by simp [he]
    have hne2 : (xE p m == 0) = false := by simp [he]
    have HE := Lib.hid he
    clear he
    go_wp2_with (go_at_call 37; (with_reducible refine (xcheck_any _ _ p m _ HP.out HM.out).mono ?_); rintro e w1 ⟨rfl, hb1⟩)
    go_ret2
    exact ⟨by simp [HE.out], bon HAL.out hb1⟩
theorem hlT_congr {T T' m : List Int} (h : ∀ x, x ∈ T ↔ x ∈ T') (l : Int) : hlT T m l = hlT T' m l := by
  unfold hlT; simp only [h]
theorem avW_congr {T T' m : List Int} (h : ∀ x, x ∈ T ↔ x ∈ T') (r : GR) : ∀ k, avW T m r k = avW T' m r k
  | 0 => rfl
  | k + 1 => by unfold avW; rw [avW_congr h r k, hlT_congr h]
theorem avT_congr {T T' m : List Int} (h : ∀ x, x ∈ T ↔ x ∈ T') (r : GR) : avT T m r = avT T' m r := by
  unfold avT; rw [avW_congr h]; simp only [hlT_congr h]
theorem derT_congr {T T' m : List Int} (h : ∀ x, x ∈ T ↔ x ∈ T') (r : GR) (a : Int) : derT T m r a = derT T' m r a := by
  unfold derT; rw [avT_congr h]
def lowY (ws : List WY) (lv : Int) : List Int := atomsY (ws.filter fun y => decide (y.level < lv))
theorem ixY_get {l : List WY} {i : Nat} (hi : i < l.length) : ixY l i = l[i] := by simp [ixY, List.getD_eq_getElem?_getD, List.getElem?_eq_getElem hi]
theorem ixY_mem {l : List WY} {i : Nat} (hi : i < l.length) : ixY l i ∈ l := by rw [ixY_get hi]; exact List.getElem_mem hi
theorem mem_ixY {l : List WY} {y : WY} (h : y ∈ l) : ∃ i, i < l.length ∧ ixY l i = y := by
  obtain ⟨i, hi, rfl⟩ := List.mem_iff_getElem.1 h
  exact ⟨i, hi, ixY_get hi⟩
theorem lvF_own {ws : List WY} (hn : (atomsY ws).Nodup) {y : WY} (hy : y ∈ ws) : lvF ws y.atom = y.level := by
  obtain ⟨z, h1, h2, h3⟩ := lvF_in (List.mem_map.2 ⟨y, hy, rfl⟩ : y.atom ∈ atomsY ws)
  obtain ⟨i, hi, rfl⟩ := mem_ixY hy
  obtain ⟨j, hj, rfl⟩ := mem_ixY h1
  have hij : i = j := by
    have hi2 : i < (atomsY ws).length := by simpa [atomsY] using hi
    have hj2 : j < (atomsY ws).length := by simpa [atomsY] using hj
    refine (List.getElem_inj (h₀ := hi2) (h₁ := hj2) hn).1 ?_
    simp only [atomsY, List.getElem_map, ← ixY_get hi, ← ixY_get hj]
    exact h2.symm
  subst hij
  exact h3.symm
theorem lvT_low {m : List Int} {ws : List WY} {N : Nat} {lv : Int} (hm : ∀ x ∈ m, 1 ≤ x ∧ x ≤ N) (hn : (atomsY ws).Nodup) (hs : ∀ y ∈ ws, y.atom ∈ m) (hl : ∀ y ∈ ws, 1 ≤ y.level) (x : Int) : x ∈ lvT m (lvL N ws) (lv - 1) ↔ x ∈ lowY ws lv := by
  unfold lvT lowY
  rw [List.mem_filter, Bool.and_eq_true, decide_eq_true_eq, decide_eq_true_eq]
  constructor
  · rintro ⟨h1, h2, h3⟩
    have hr := hm x h1
    rw [lvL_ix (by omega), show ((x.toNat : Nat) : Int) = x by omega] at h2 h3
    obtain ⟨y, hy, e1, e2⟩ := lvF_mem (show lvF ws x ≠ 0 by omega)
    exact List.mem_map.2 ⟨y, List.mem_filter.2 ⟨hy, decide_eq_true (by omega)⟩, e1⟩
  · intro h
    obtain ⟨y, hy, rfl⟩ := List.mem_map.1 h
    obtain ⟨hy, hlt⟩ := List.mem_filter.1 hy
    have hlt := of_decide_eq_true hlt
    have hr := hm _ (hs y hy)
    have h1 := hl y hy
    refine ⟨hs y hy, ?_⟩
    rw [lvL_ix (by omega), show ((y.atom.toNat : Nat) : Int) = y.atom by omega, lvF_own hn hy]
    omega
section
variable {P : Program} {l : List Oper} {D : Nat → Nat → Bool} {Q : Exit → Act → World → Prop} {a0 : Act}
def StepJ (P : Program) (l : List Oper) (a0 : Act) (W : (Nat → Value) → (Nat → Bool) → World → Prop) (i : Nat) (vals : Nat → Value) (L : Nat → Bool) (w : World) : Prop :=
  Region.wanted (opAt l i) (yielded l.toArray (Afr l a0 vals i).tmps) = true ∧
    (opAt l i).wp P (Afr l a0 vals i) w (fun a' w' => ∃ v, a' = (Afr l a0 vals i).put (opAt l i).dst v ∧ W (updN vals i v) (updN L i true) w') (fun _ _ _ => False)
theorem StepJ.of {W : (Nat → Value) → (Nat → Bool) → World → Prop} {i : Nat} {vals : Nat → Value} {L : Nat → Bool} {w : World} (hw : Region.wanted (opAt l i) (yielded l.toArray (Afr l a0 vals i).tmps) = true)
    (h : ∀ K : Act → World → Prop, (∀ v w', W (updN vals i v) (updN L i true) w' → K ((Afr l a0 vals i).put (opAt l i).dst v) w') → (opAt l i).wp P (Afr l a0 vals i) w K (fun _ _ _ => False)) : StepJ P l a0 W i vals L w :=
  ⟨hw, h _ fun v _ hW => ⟨v, rfl, hW⟩⟩
end
def Far (u v : Value) : Prop := ∀ g, u.ownBlock = some g → v.ownBlock ≠ some g
section
variable {w : World} {ob : Nat} {v1 v2 bd : Value} {l1 l2 : List Int} {x y : Int} {vals : Nat → Value} {L : Nat → Bool} {wx : World}
theorem QRow.base {base : Nat} {w : World} {v : Value} {l : List Int} (h : QRow base w v l) {g : Nat} (e : v.ownBlock = some g) : base ≤ g ∧ g < w.heap.size := by
  rcases h.2 with ⟨rfl, _⟩ | ⟨g', off, cap, cur, rfl, hb, hg, _⟩
  · cases e
  · simp only [Value.ownBlock, Option.some.injEq] at e
    subst e
    exact ⟨hb, (Array.getElem?_eq_some_iff.1 hg).1⟩
end
end Go.Proofs.YtgakoainjgjimaaGreatDoor
namespace Go.Proofs.YtgakoainjgjimaaGreatDoor
open Go.RowKit Go.Shelf
attribute [local go_sem] Oper.semAt_some
def PBIs (w : World) (v : Value) (c : PBC) : Prop := ∃ vl vk, v = .agg #[vl, vk, .int .i64 c.bound] ∧ Ints w vl c.lits ∧ Ints w vk c.coefs ∧ InI c.bound
theorem PBIs.below {w w' : World} {v : Value} {c : PBC} (h : PBIs w v c) (hb : Below w.heap.size w w') : PBIs w' v c :=
  let ⟨vl, vk, e, h1, h2, h3⟩ := h; ⟨vl, vk, e, h1.below hb, h2.below hb, h3⟩
end Go.Proofs.YtgakoainjgjimaaGreatDoor
namespace Go.Proofs.YtgakoainjgjimaaGreatDoor
open Go.RowKit Go.Shelf
attribute [local go_sem] Oper.semAt_some
structure Up (w w1 W : World) : Prop where
  below : Below w.heap.size w W
  size : w1.heap.size ≤ W.heap.size
theorem Up.on {w w1 W W' : World} (h : Up w w1 W) (hb : Below W.heap.size W W') : Up w w1 W' := ⟨bon h.below hb, Nat.le_trans h.size hb.size⟩
theorem Up.set {w w1 W : World} (h : Up w w1 W) (b o : Nat) (v : Value) (hb : w.heap.size ≤ b) : Up w w1 (W.setCell ⟨b, o, none⟩ v) := ⟨h.below.setCell (p := ⟨b, o, none⟩) hb v, by rw [size_set]; exact h.size⟩
theorem Up.own {β : Type} {w w1 : World} {B : Nat} (hB : w.heap.size ≤ B) : OwnFrom B (fun (_ : β) W => Up w w1 W) := fun s X Y row hs hg hr =>
  ⟨ownFrom_below (Nat.le_refl _) hB s X Y row hs.below hg hr, Nat.le_trans hs.size hg.size⟩
end Go.Proofs.YtgakoainjgjimaaGreatDoor
