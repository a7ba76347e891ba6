/- My texts Mk2, Awk1, merged. -/
import Derived.Test.YtjodocheiejkeaaGreatDoorM12
import Derived.Test.YtjodocheiejkeaaGreatDoorM26
import Derived.Test.YtjodocheiejkeaaGreatDoorM25
import Derived.Test.YtjodocheiejkeaaGreatDoorM06
import Derived.Test.YtjodocheiejkeaaGreatDoorM22
import Derived.Test.YtjodocheiejkeaaGreatDoorM04
import Derived.Test.YtjodocheiejkeaaGreatDoorM03
import Derived.Test.YtjodocheiejkeaaGreatDoorM00
import Derived.Test.YtjodocheiejkeaaGreatDoorProg
import Derived.WalkKit
import Derived.Lib.Hide
import Derived.Deep.QuietTactic
import Derived.BigQuiet
import Derived.Lib.Bytealg
import Derived.MapKept
import Derived.Maps.OwnSet
import Derived.Maps.OwnOps
import Derived.Test.YtjodocheiejkeaaGreatDoorM02
import Derived.WalkSpells
import Derived.Lib.SliceRun
import Derived.Test.YtjodocheiejkeaaGreatDoorM01
import Derived.Deep.AppendLies
import Derived.Deep.DeepCutAuto
import Derived.Test.YtjodocheiejkeaaGreatDoorM07
import Derived.Test.YtjodocheiejkeaaGreatDoorM24
import Derived.Test.YtjodocheiejkeaaGreatDoorM23
import Derived.RangeFuncNested
import Derived.RangeFuncBound
import Derived.RangeFuncCalls
import Derived.RangeFuncLeaves
import Derived.OwnWalkIn
import Derived.TacticsInMore
import Derived.LoopNIn
import Derived.LoopIn
import Derived.Stop.RegionWithIn
import Derived.Shelf.Abstract
import Derived.Test.YtjodocheiejkeaaGreatDoorM11
import Derived.Laws.EntriesVeiled
import Derived.Test.YtjodocheiejkeaaGreatDoorM10
import Derived.Test.YtjodocheiejkeaaGreatDoorM09
import Derived.Test.YtjodocheiejkeaaGreatDoorM08
import Derived.Maps.RangeWalk
import Derived.Lib.SlicesCompact
import Derived.Shelf.Sort.Plain
import Derived.Shelf.Slices.CompactI
import Derived.Shelf.Slices.In.SortNone
import Derived.Shelf.Strconv.Itoa3
import Derived.Shelf.Strings.BuilderK
import Derived.Sort.OwnSortedInts
import Derived.Sort.QuietThIn
import Derived.RangeFuncBox
import Derived.Maps.OwnIn
import Derived.Lib.RowBridge
import Derived.Deep.OwnRows
import Derived.Deep.AppendSrc

namespace Go.Proofs.YtjodocheiejkeaaGreatDoor
open Go.RowKit Go.Shelf
attribute [local go_sem] Oper.semAt_some
set_option maxHeartbeats 4000000 in
set_option maxRecDepth 100000 in
theorem make_any (vp va vset : Value) (p : GP) (a S : List Int) (u : Int) (w : World) (hP : ProgIs w vp p) (hA : Bytes8 w va a) (hS : Ints w vset S) (hu : InI u) :
    Calls Tryz.prog 44 #[vp, va, vset, .int .i64 u] w fun e w' => ∃ vc, e = .returned (.tuple #[vc, .int .i64 (makeP p a S u).2]) ∧ PBQ w.heap.size w' vc (makeP p a S u).1 ∧ Below w.heap.size w w' := by
  have hP0 := hP
  obtain ⟨vn, vs, vr, vm, rfl, hPS⟩ := hP
  obtain ⟨a1, c1, rfl, -, hl1, -, -⟩ := hPS.rules.form
  obtain ⟨a4, c4, rfl, -, hl4, -, -⟩ := hS.form
  obtain ⟨a9, n9, c9, rfl⟩ : ∃ a9 n9 c9, va = .slice a9 n9 c9 := by obtain ⟨⟨x, y, e, -⟩, -⟩ := hA; exact ⟨_, _, _, e⟩
  have bP := ((Blk.new w [.int .i64 p.n, vn, vs, .slice a1 p.rules.length c1, vm] 27).alloc (.cells #[.slice a9 n9 c9] 39)).alloc (.cells #[.slice none 0 0, .slice none 0 0, .int .i64 0] 46)
  have bA := (Blk.new2 w (.cells #[.int .i64 p.n, vn, vs, .slice a1 p.rules.length c1, vm] 27) [.slice a9 n9 c9] 39).alloc (.cells #[.slice none 0 0, .slice none 0 0, .int .i64 0] 46)
  have bZ := Blk.new ((w.alloc (.cells #[.int .i64 p.n, vn, vs, .slice a1 p.rules.length c1, vm] 27)).alloc (.cells #[.slice a9 n9 c9] 39)) pbZ 46
  have hal : Below w.heap.size w (((w.alloc (.cells #[.int .i64 p.n, vn, vs, .slice a1 p.rules.length c1, vm] 27)).alloc (.cells #[.slice a9 n9 c9] 39)).alloc (.cells #[.slice none 0 0, .slice none 0 0, .int .i64 0] 46)) := bal (bal (bal (Below.refl _ _) _) _) _
  simp only [World.size_alloc] at bZ
  have HP := Lib.hid (hP0.below hal)
  have HA := Lib.hid (hA.below hal)
  have HS := Lib.hid (hS.below hal)
  have HAL := Lib.hid hal
  have BP := Lib.hid bP
  have BA := Lib.hid bA
  have BZ := Lib.hid bZ
  clear hP0 hPS hA hS hal bP bA bZ
  unfold InI at hu
  refine (callsIn_wide (n := 6)).1 ?_
  refine callsIn_of_wp_marks Tryz.func44 rfl trivial ?_ rfl
  simp only [Tryz.ntmps44, List.size_toArray, List.length_cons, List.length_nil, Nat.reduceAdd, Nat.reduceSub, Array.replicate_succ, Array.replicate_zero, List.push_toArray, List.append_toArray, List.nil_append, List.cons_append]
  gi_upto_region 1 with fail
  have kP := BP.out.cell
  have kA := BA.out.cell
  have kZ := BZ.out.cell
  generalize ((w.alloc (.cells #[.int .i64 p.n, vn, vs, .slice a1 p.rules.length c1, vm] 27)).alloc (.cells #[.slice a9 n9 c9] 39)).alloc (.cells #[.slice none 0 0, .slice none 0 0, .int .i64 0] 46) = W3 at *
  cases hun : unfB p a S with
  | false =>
    have HUN := Lib.hid hun
    have HF : Hid (makeP p a S u = (⟨[], [], 0⟩, 2)) := Lib.hid (by unfold makeP; rw [hun]; rfl)
    clear hun
    gi_upto_region 2 with (first | (refine ⟨trivial, ?_⟩; gi_at_call 16; refine (callsIn_wide.2 (unfounded_any _ _ _ p a S W3 HP.out HA.out HS.out)).mono ?_; rintro e w1 ⟨e1, hb1⟩; rw [HUN.out] at e1; subst e1; have HB1 := Lib.hid hb1; clear hb1) | refine ⟨trivial, ?_⟩)
    have kZ1 := (BZ.out.below HB1.out).cell
    have kf1 := (BZ.out.below HB1.out).free
    gi_wp2
    refine ⟨.tuple #[.agg #[.slice none 0 0, .slice none 0 0, .int .i64 0], .int .i64 2], by simp [results, Tryz.f44, go_sem, *], ?_⟩
    have hzZ := BZ.out.lt
    exact ⟨_, by rw [HF.out], by rw [HF.out]; exact ⟨_, _, rfl, QRow.nil _ _, QRow.nil _ _, show InI (0 : Int) from (by unfold InI; omega), Nat.zero_le _, Nat.zero_le _⟩, below3 (bon HAL.out HB1.out) _ (by omega) _ _ _⟩
  | true =>
    by_cases hus : u ∈ S
    · have HUN := Lib.hid hun
      have HUS : Hid (decide (u ∈ S) = true) := Lib.hid (decide_eq_true hus)
      have hv : validE p = 0 ∧ setB' p.n S = true := by
        unfold unfB at hun
        simp only [Bool.and_eq_true, decide_eq_true_eq] at hun
        exact ⟨hun.1, hun.2.1⟩
      have hu2 : 1 ≤ u ∧ u ≤ p.n := by
        obtain ⟨k, hk, e⟩ := mem_ix_iff.1 hus
        have h1 := hv.2
        unfold setB' at h1
        rw [Bool.and_eq_true] at h1
        have := allR_get h1.1 k hk
        unfold setTo at this
        simp only [Bool.and_eq_true, decide_eq_true_eq] at this
        rw [← e]; exact this.1
      have hV := validP hv.1
      have hn := hV.n
      have hr := hV.rules
      have HOK : Hid (∀ k, k < p.rules.length → SUok2 (supAt p S k)) := Lib.hid (fun k hk => ⟨supAt_ok hv.1 S hk, by have := lits_leM (hV.body k hk) hn.1; show (ixR p.rules k).body.length ≤ 8002; omega⟩)
      have HF : Hid (makeP p a S u = clauseP ([-u] ++ reasAll a (supsTo p S p.rules.length))) := Lib.hid (by unfold makeP; rw [hun, decide_eq_true hus]; rfl)
      clear hun hus hv hV
      gi_upto_region 4 with (first | (refine ⟨trivial, ?_⟩; gi_at_call 16; refine (callsIn_wide.2 (unfounded_any _ _ _ p a S W3 HP.out HA.out HS.out)).mono ?_; rintro e w1 ⟨e1, hb1⟩; rw [HUN.out] at e1; subst e1; have HB1 := Lib.hid hb1; clear hb1) | (refine ⟨trivial, ?_⟩; gi_at_call 55; refine (callsIn_wide.2 (contains_any _ S u _ (HS.out.below HB1.out))).mono ?_; rintro e w2 ⟨e2, rfl⟩; rw [HUS.out] at e2; subst e2))
      have hz5 : ((w1.alloc (.cells #[.int .i64 (-u)] 3)).alloc (.cells #[.slice (some ⟨w1.heap.size, 0, none⟩) 1 1] 23)).heap.size = w1.heap.size + 1 + 1 := by simp
      have HZ5 := Lib.hid hz5
      have hb5 := bal (bal HB1.out (.cells #[.int .i64 (-u)] 3)) (.cells #[.slice (some ⟨w1.heap.size, 0, none⟩) 1 1] 23)
      have HB5 := Lib.hid hb5
      have kP5 := (BP.out.below hb5).cell
      have HM5 : Hid (∀ W6, Below (w1.heap.size + 1 + 1) ((w1.alloc (.cells #[.int .i64 (-u)] 3)).alloc (.cells #[.slice (some ⟨w1.heap.size, 0, none⟩) 1 1] 23)) W6 → MkI a (-u) w1 W6.heap.size [] W6) := Lib.hid (fun W6 h => MkI.start (by unfold InI; omega) h)
      clear hz5 hb5
      generalize (w1.alloc (.cells #[.int .i64 (-u)] 3)).alloc (.cells #[.slice (some ⟨w1.heap.size, 0, none⟩) 1 1] 23) = W5 at *
      gi_wp2_with (refine ⟨trivial, ?_⟩; gi_at_call 84; refine (callsIn_wide.2 (supports_any _ _ _ _ _ _ _ _ _ _ _)).mono ?_; rintro e w6 ⟨rfl, hb6, hp6, hs6⟩)
      have HB6 := Lib.hid (bon HB5.out hb6)
      have hsz1 := HB1.out.size
      have hsz5 : w1.heap.size + 2 ≤ W5.heap.size ∧ W5.heap.size ≤ w1.heap.size + 2 := by have := HZ5.out; omega
      have hsz6 := hb6.size
      have hz6 := hs6.lt
      have BA6 := Lib.hid ((BA.out.below HB5.out).below hb6)
      have BZ6 := Lib.hid ((BZ.out.below HB5.out).below hb6)
      have HA6 := Lib.hid (HA.out.below HB6.out)
      have hzA := BA.out.lt
      have hzZ := BZ.out.lt
      have hMI : MkI a (-u) w1 w6.heap.size [] w6 := HM5.out w6 (hb6.mono (by omega))
      have HBw1 := Lib.hid (HB1.out)
      clear kA kZ kP kP5 HM5
      refine wpIn_rangeFunc_ownH rfl (by omega) (gf := 119) (lb := #[.pointer (some ⟨W5.heap.size, 0, none⟩), .pointer (some ⟨W5.heap.size + 1, 0, none⟩)]) rfl trivial (enters_of Tryz.func119 (by kernel_rfl) rfl)
        (sups_stopsR p S W3 w6 vn vs (.slice a1 p.rules.length c1) vm (.slice a4 S.length c4) HP.out HS.out [w1.heap.size, w1.heap.size + 1] _ _ ⟨HB6.out, hp6, hs6⟩ (fun i hi => by simp only [List.mem_cons, List.not_mem_nil, or_false] at hi; omega) ⟨by simp only [List.mem_cons, List.not_mem_nil, or_false]; omega, by simp only [List.mem_cons, List.not_mem_nil, or_false]; omega⟩ HOK.out 5 (by omega))
        (fun h k => h.trans k) (fun W l o o' hl h hc hw => .of_below (belowK_b (w := w6) (Nat.le_refl _) W l o o' hl h hc hw) (Nat.le_refl _)) (Below.refl _ _) (fun _ => rfl)
        (fun pre W => MkI a (-u) w1 w6.heap.size (suw pre) W)
        (fun _ _ _ => False)
        (MkI.ownR (by omega))
        (fun _ _ _ _ _ hs _ _ => hs)
        hMI
        (fun x a' W => ∃ Bx vh vb vw vs9, x.1.1 = .agg #[.bool x.1.2.r.choice, vh, .bool x.1.2.r.sum, .int .i64 x.1.2.r.bound, vb, vw, .int .i64 x.1.2.b, vs9] ∧ (∃ a n c, vh = .slice a n c) ∧ (∃ a n c, vb = .slice a n c) ∧ (∃ a n c, vw = .slice a n c) ∧ (∃ a n c, vs9 = .slice a n c) ∧ Blk W Bx [.bool x.1.2.r.choice, vh, .bool x.1.2.r.sum, .int .i64 x.1.2.r.bound, vb, vw, .int .i64 x.1.2.b, vs9] 128 ∧ a' = { tmps := #[.agg #[.int .i64 p.n, vn, vs, .slice a1 p.rules.length c1, vm], .slice a9 n9 c9, .slice a4 S.length c4, .int .i64 u, .pointer (some ⟨w.heap.size, 0, none⟩), .pointer (some ⟨w.heap.size + 1, 0, none⟩), undef, undef, .pointer (some ⟨w.heap.size + 1 + 1, 0, none⟩), .int .i64 0, .pointer (some ⟨w1.heap.size + 1, 0, none⟩), .pointer (some ⟨Bx, 0, none⟩), .agg #[.int .i64 p.n, vn, vs, .slice a1 p.rules.length c1, vm], .slice a9 n9 c9, .slice a4 S.length c4, .bool true, .bool false, .bool false, .slice a4 S.length c4, .int .i64 u, .bool true, .bool false, .bool false, undef, .int .i64 u, .int .i64 (-u), .slice (some ⟨w1.heap.size, 0, none⟩) 1 1, .agg #[.int .i64 p.n, vn, vs, .slice a1 p.rules.length c1, vm], .slice a4 S.length c4, .func (.func 119) #[] #[.pointer (some ⟨W5.heap.size, 0, none⟩), .pointer (some ⟨W5.heap.size + 1, 0, none⟩)], x.1.1, undef, undef, undef, undef, undef, undef, undef, undef, undef], defers := [] })
        (fun x a' _ X Y row hs hg hr => by obtain ⟨Bx, vh, vb, vw, vs9, h2, f1, f2, f3, f4, h3, h4⟩ := hs; exact ⟨Bx, vh, vb, vw, vs9, h2, f1, f2, f3, f4, blk_own Bx _ _ () X Y row h3 hg (fun r e => (hr r e).2), h4⟩)
        ?assign ?body ?done ?stop
      case assign =>
        rintro l pre x W K hI hK
        obtain ⟨vh, vb, vw, vs9, hx, ⟨x1, x2, x3, rfl⟩, ⟨x4, x5, x6, rfl⟩, ⟨x7, x8, x9, rfl⟩, ⟨y1, y2, y3, rfl⟩⟩ := x.form
        have HX := Lib.hid hx
        have hbn := Blk.new W [.bool x.1.2.r.choice, (.slice x1 x2 x3), .bool x.1.2.r.sum, .int .i64 x.1.2.r.bound, (.slice x4 x5 x6), (.slice x7 x8 x9), .int .i64 x.1.2.b, (.slice y1 y2 y3)] 128
        have HBN := Lib.hid hbn
        have HI := Lib.hid hI
        have hzW : w6.heap.size ≤ W.heap.size := by obtain ⟨v, _, _, _, _, _, h⟩ := hI; exact h
        have HZW := Lib.hid hzW
        dsimp only
        rw [hx]
        clear hx hbn hI hzW
        gi_wp2
        exact hK _ _ ((KeepsOthers.alloc _ _).from _) (.of_below (bal (Below.refl _ _) _) HZW.out) (HI.out.on (bal (Below.refl _ _) _)) ⟨W.heap.size, _, _, _, _, HX.out, ⟨_, _, _, rfl⟩, ⟨_, _, _, rfl⟩, ⟨_, _, _, rfl⟩, ⟨_, _, _, rfl⟩, HBN.out, by rw [HX.out]⟩
      case body =>
        rintro l pre x a' W hl ⟨r, hr⟩ ⟨v, h1, h2, h3, h4, h5, h6⟩ ⟨Bx, vh, vb, vw, vs9, hx, ⟨x1, x2, x3, rfl⟩, ⟨x4, x5, x6, rfl⟩, ⟨x7, x8, x9, rfl⟩, ⟨y1, y2, y3, rfl⟩, bX, rfl⟩ hlt
        obtain ⟨av, nv, cv, rfl⟩ := h2.form
        have hBW : Below W3.heap.size W3 W := HBw1.out.trans (h3.mono hsz1)
        have bA7 := (BA.out.below HBw1.out).same (h3.block (w.heap.size + 1) (by omega))
        have kl : ∀ e : Ext W, e.world.cell? ⟨w1.heap.size + 1, 0, none⟩ = some (.slice av nv cv) := fun e => (bcell e.below _ 0 h1.lt).trans (h1.cell 0)
        have ks : ∀ e : Ext W, ∀ o, e.world.cell? ⟨Bx, o, none⟩ = [Value.bool x.1.2.r.choice, .slice x1 x2 x3, .bool x.1.2.r.sum, .int .i64 x.1.2.r.bound, .slice x4 x5 x6, .slice x7 x8 x9, .int .i64 x.1.2.b, .slice y1 y2 y3][o]? := fun e o => (bcell e.below _ o bX.lt).trans (bX.cell o)
        have ka : ∀ e : Ext W, e.world.cell? ⟨w.heap.size + 1, 0, none⟩ = some (.slice a9 n9 c9) := fun e => (bcell e.below _ 0 bA7.lt).trans (bA7.cell 0)
        have HSU : Hid (SupIs W (.agg #[.bool x.1.2.r.choice, .slice x1 x2 x3, .bool x.1.2.r.sum, .int .i64 x.1.2.r.bound, .slice x4 x5 x6, .slice x7 x8 x9, .int .i64 x.1.2.b, .slice y1 y2 y3]) x.1.2) := Lib.hid (hx ▸ x.2.1.below hBW)
        have HAW := Lib.hid (HA.out.below hBW)
        have HPL : Hid (([-u] ++ reasAll a (suw pre)).length + (reasP x.1.2 a).length ≤ 400000000) := Lib.hid (by
          have e1 := reasP_len x.1.2 a
          have e2 := x.2.2.2
          rw [suw_len] at h4
          omega)
        have HZW := Lib.hid h3.size
        gi_upto_region 6 with fail
        refine wp_region_tailR 4 (fun _ => True) (mkΦ (reasP x.1.2 a)) (fun i => i == 3) (by kernel_rfl) (by kernel_rfl) (by kernel_rfl) (by kernel_rfl) (fun _ _ => trivial) (mkΦ_later _) ?_
        simp only [List.take_succ_cons, List.take_zero, List.drop_succ_cons, List.drop_zero]
        iterate 3 (refine walkP_head (by kernel_rfl) rfl rfl rfl (fun K hK => ?_); go_big_quiet_op; refine hK _ ?_; clear hK K)
        refine walkP_mem rfl rfl (fun wa hba hFa => ?_) (fun v3 lo3 hi3 l3 g3 h3' => ?_)
        · go_simp
          refine (reasons_any _ _ x.1.2 a _ (HSU.out.below hba) x.2.2.1 (HAW.out.below hba)).mono ?_
          rintro e w2 ⟨v, rfl, hi, hb⟩
          obtain ⟨xa, xc, e9, -⟩ := hi.form
          exact ⟨_, rfl, hb, hi, _, _, _, e9⟩
        obtain ⟨_, -, xa, xn, xc, rfl⟩ := h3'
        simp only [Act.put, List.setIfInBounds_toArray, List.set_cons_succ, List.set_cons_zero]
        intro wx hbx hF hI hP
        have f3 := hF _ (.head _)
        obtain ⟨hi3, -⟩ := f3
        refine ⟨rfl, rfl, ?_⟩
        refine wp_appendM (.tmp 31) (.tmp 34) rfl w1.heap.size (.slice av nv cv) (.slice xa xn xc) ([-u] ++ reasAll a (suw pre)) (reasP x.1.2 a) rfl rfl (h2.below hbx) hi3 (by have := HPL.out; omega) (by have := hbx.size; have := HZW.out; omega) ?_
        intro v' w7 hq7 hg7 ho7
        obtain ⟨hb7, hI7, hL7, hK7⟩ := MkI.push (h1.below hbx) (h2.below hbx) (h3.trans (hbx.mono h3.size)) h4 h5 (Nat.le_trans h6 hbx.size) x.2.2.2 hq7 hg7 ho7
        obtain ⟨a8, n8, c8, rfl⟩ := hq7.form
        refine ⟨trivial, rfl, rfl, ?_⟩
        have kc := hb7.cell 0
        have kf := hb7.free 0
        have HI7 := Lib.hid hI7
        have HL7 := Lib.hid ((Lim.of_below hbx h6).trans hL7)
        have HK7 := Lib.hid ((keeps_below hbx).trans hK7)
        clear hI7 hL7 hK7
        simp only [Act.put, List.setIfInBounds_toArray, List.set_cons_succ, List.set_cons_zero]
        go_simp
        exact ⟨rfl, HK7.out, HL7.out, by show MkI a (-u) w1 w6.heap.size (suw (pre ++ [x])) _; rw [suw_snoc]; exact HI7.out⟩
      case done =>
        rintro D xs W hD hS ⟨v, h1, h2, h3, h4, h5, h6⟩ hK
        obtain ⟨av, nv, cv, rfl⟩ := h2.form
        have kl := h1.cell 0
        have hxl := supsTo_len p S p.rules.length
        rw [← hS] at hxl
        have HL := Lib.hid (h2.ints (by omega))
        have HF2 : Hid (makeP p a S u = clauseP ([-u] ++ reasAll a (suw xs))) := Lib.hid (by rw [HF.out, hS])
        have HBW := Lib.hid (((HAL.out.trans (HBw1.out.mono HAL.out.size)).trans (h3.mono (by have := HAL.out.size; omega))))
        have HZW := Lib.hid ((BZ.out.below HBw1.out).same (h3.block (w.heap.size + 1 + 1) (by omega)))
        have hDW : D < W.heap.size := (Array.getElem?_eq_some_iff.1 hK).1
        have HK := Lib.hid hK
        have HDW := Lib.hid hDW
        have hzw : w.heap.size + 1 + 1 < W.heap.size := by omega
        have HZZ := Lib.hid hzw
        clear h1 h2 h3 h4 h5 h6 hS hK hDW hzw HF
        generalize [-u] ++ reasAll a (suw xs) = LL at *
        gi_wp2_with (refine ⟨trivial, ?_⟩; gi_at_call 18; refine (callsIn_wide.2 (clause_any _ _ _ HL.out)).mono ?_; rintro e w8 ⟨vp, rfl, ⟨vl, vk, rfl, hq1, hq2, hq3⟩, hb8⟩; obtain ⟨al, nl, cl, rfl⟩ := hq1.form; obtain ⟨ak, nk, ck, rfl⟩ := hq2.form; have HQ1 := Lib.hid hq1; have HQ2 := Lib.hid hq2; have HQ3 := Lib.hid hq3; have HB8 := Lib.hid hb8; have hz8 := HZW.out.below hb8; have HZ8 := Lib.hid hz8; have kx := hz8.cell; have kf := hz8.free; clear hq1 hq2 hq3 hb8 hz8)
        have hK3 : ((((w8.setCell ⟨w.heap.size + 1 + 1, 0, none⟩ (.slice al nl cl)).setCell ⟨w.heap.size + 1 + 1, 1, none⟩ (.slice ak nk ck)).setCell ⟨w.heap.size + 1 + 1, 2, none⟩ (.int .i64 (clauseP LL).1.bound)).heap[D]? = some (.deferred (some []))) :=
          ((((Below.heap_setCell _ _ _ _ (by show D ≠ w.heap.size + 1 + 1; omega)).trans (Below.heap_setCell _ _ _ _ (by show D ≠ w.heap.size + 1 + 1; omega))).trans (Below.heap_setCell _ _ _ _ (by show D ≠ w.heap.size + 1 + 1; omega))).trans (HB8.out.block D HDW.out)).trans HK.out
        have hzB : Blk (((w8.setCell ⟨w.heap.size + 1 + 1, 0, none⟩ (.slice al nl cl)).setCell ⟨w.heap.size + 1 + 1, 1, none⟩ (.slice ak nk ck)).setCell ⟨w.heap.size + 1 + 1, 2, none⟩ (.int .i64 (clauseP LL).1.bound)) (w.heap.size + 1 + 1) [.slice al nl cl, .slice ak nk ck, .int .i64 (clauseP LL).1.bound] 46 := ((HZ8.out.set 0 _).set 1 _).set 2 _
        have hq1 := row3 HQ1.out (w.heap.size + 1 + 1) HZZ.out (.slice al nl cl) (.slice ak nk ck) (.int .i64 (clauseP LL).1.bound)
        have hq2 := row3 HQ2.out (w.heap.size + 1 + 1) HZZ.out (.slice al nl cl) (.slice ak nk ck) (.int .i64 (clauseP LL).1.bound)
        have hbF := below3 (bon HBW.out HB8.out) (w.heap.size + 1 + 1) (by omega) (.slice al nl cl) (.slice ak nk ck) (.int .i64 (clauseP LL).1.bound)
        refine ⟨by simp, .inl ⟨_, _, rfl, run_takeDeferred hK3, ?_⟩⟩
        generalize ((w8.setCell ⟨w.heap.size + 1 + 1, 0, none⟩ (.slice al nl cl)).setCell ⟨w.heap.size + 1 + 1, 1, none⟩ (.slice ak nk ck)).setCell ⟨w.heap.size + 1 + 1, 2, none⟩ (.int .i64 (clauseP LL).1.bound) = W9 at *
        have hrow : ∀ r, some D = some r → ∃ o : Obj, W9.heap[r]? = some o ∧ o.isCells = false := fun r e => by cases e; exact ⟨_, hK3, rfl⟩
        have kz := (blk_own _ _ _ () W9 _ _ hzB (grownBy_putObj' W9 D (.deferred none)) hrow).cell
        refine ⟨.tuple #[.agg #[.slice al nl cl, .slice ak nk ck, .int .i64 (clauseP LL).1.bound], .int .i64 (clauseP LL).2], by simp [results, Tryz.f44, go_sem, kz], _, by rw [HF2.out], ?_, hbF.trans (belowK_b (w := w) (Nat.le_refl _) W9 D _ _ (by omega) hK3 rfl rfl)⟩
        rw [HF2.out]
        have hzz := HZZ.out
        exact ⟨_, _, rfl, (hq1.ownR (grownBy_putObj' W9 D (.deferred none)) hrow).mono (by omega), (hq2.ownR (grownBy_putObj' W9 D (.deferred none)) hrow).mono (by omega), HQ3.out⟩
      case stop =>
        rintro D c pre W _ _ h _
        exact h.elim
    · have HUN := Lib.hid hun
      have HUS : Hid (decide (u ∈ S) = false) := Lib.hid (decide_eq_false hus)
      have HF : Hid (makeP p a S u = (⟨[], [], 0⟩, 2)) := Lib.hid (by unfold makeP; rw [hun, decide_eq_false hus]; rfl)
      clear hun hus
      gi_upto_region 2 with (first | (refine ⟨trivial, ?_⟩; gi_at_call 16; refine (callsIn_wide.2 (unfounded_any _ _ _ p a S W3 HP.out HA.out HS.out)).mono ?_; rintro e w1 ⟨e1, hb1⟩; rw [HUN.out] at e1; subst e1; have HB1 := Lib.hid hb1; clear hb1) | (refine ⟨trivial, ?_⟩; gi_at_call 55; refine (callsIn_wide.2 (contains_any _ S u _ (HS.out.below HB1.out))).mono ?_; rintro e w2 ⟨e2, rfl⟩; rw [HUS.out] at e2; subst e2))
      have kZ1 := (BZ.out.below HB1.out).cell
      have kf1 := (BZ.out.below HB1.out).free
      gi_wp2
      refine ⟨.tuple #[.agg #[.slice none 0 0, .slice none 0 0, .int .i64 0], .int .i64 2], by simp [results, Tryz.f44, go_sem, *], ?_⟩
      have hzZ := BZ.out.lt
      exact ⟨_, by rw [HF.out], by rw [HF.out]; exact ⟨_, _, rfl, QRow.nil _ _, QRow.nil _ _, show InI (0 : Int) from (by unfold InI; omega), Nat.zero_le _, Nat.zero_le _⟩, below3 (bon HAL.out HB1.out) _ (by omega) _ _ _⟩
end Go.Proofs.YtjodocheiejkeaaGreatDoor
namespace Go.Proofs.YtjodocheiejkeaaGreatDoor
open Go.RowKit
set_option maxHeartbeats 4000000 in
set_option maxRecDepth 100000 in
theorem claw_any (v : Value) (l : List Int) (w : World) (h : Ints w v l) :
    Calls Tryz.prog 45 #[v] w fun e w' => ∃ vp, e = .returned vp ∧ PBQ w.heap.size w' vp (clauseP l).1 ∧ Below w.heap.size w w' := by
  have h0 := h
  obtain ⟨a1, c1, rfl, -⟩ := h.form
  have hal := bal (Below.refl w.heap.size w) (.cells #[.slice none 0 0, .slice none 0 0, .int .i64 0] 46)
  have HAL := Lib.hid hal
  have HB0 := Lib.hid (Blk.new w pbZ 46)
  have HI := Lib.hid (h0.below hal)
  clear hal h h0
  go_enter Tryz.func45, Tryz.ntmps45
  go_upto_region 1 with fail
  generalize w.alloc (.cells #[.slice none 0 0, .slice none 0 0, .int .i64 0] 46) = W0 at *
  go_wp2_with (go_at_call 18; (with_reducible refine (clause_any _ l W0 HI.out).mono ?_); rintro e w1 ⟨vp, rfl, ⟨vl, vk, rfl, hq1, hq2, hq3⟩, hb1⟩; obtain ⟨al, nl, cl, rfl⟩ := hq1.form; obtain ⟨ak, nk, ck, rfl⟩ := hq2.form; have HQ1 := Lib.hid hq1; have HQ2 := Lib.hid hq2; have HQ3 := Lib.hid hq3; have HB1 := Lib.hid hb1; have kx := (HB0.out.below hb1).cell; have kf := (HB0.out.below hb1).free; have hz1 : w.heap.size < w1.heap.size := (HB0.out.below hb1).lt; clear hq1 hq2 hb1)
  have hal2 := fun (W : World) => bal (Below.refl W.heap.size W) (.cells #[.slice al nl cl, .slice ak nk ck, .int .i64 (clauseP l).1.bound] 46)
  have hb3 := below3 (bon HAL.out HB1.out) w.heap.size (Nat.le_refl _) (.slice al nl cl) (.slice ak nk ck) (.int .i64 (clauseP l).1.bound)
  have h1 := row3 HQ1.out w.heap.size HB0.out.lt (.slice al nl cl) (.slice ak nk ck) (.int .i64 (clauseP l).1.bound)
  have h2 := row3 HQ2.out w.heap.size HB0.out.lt (.slice al nl cl) (.slice ak nk ck) (.int .i64 (clauseP l).1.bound)
  have hz0 := HB0.out.lt
  refine bodyPost_ret (v := .agg #[.slice al nl cl, .slice ak nk ck, .int .i64 (clauseP l).1.bound]) (by simp [results, Tryz.f45, go_sem, kx, hz1]) rfl ⟨_, rfl, ⟨_, _, rfl, (h1.below (hal2 _)).mono (by omega), (h2.below (hal2 _)).mono (by omega), hq3⟩, bon hb3 (hal2 _)⟩
structure AwSt (w W : World) : Prop where
  prog : ProgIs W (.agg #[.int .i64 3, .slice (some ⟨w.heap.size, 0, none⟩) 3 3, .slice none 0 0, .slice (some ⟨w.heap.size + 1 + 1 + 1 + 1 + 1 + 1 + 1 + 1, 0, none⟩) 4 4, .slice none 0 0]) loopP
  asg : Bytes8 W (.slice (some ⟨w.heap.size + 1 + 1 + 1 + 1 + 1 + 1 + 1 + 1 + 1 + 1, 0, none⟩) 7 7) aw
  set : Ints W (.slice (some ⟨w.heap.size + 1 + 1 + 1 + 1 + 1 + 1 + 1 + 1 + 1 + 1 + 1, 0, none⟩) 2 2) [1, 2]
  box : Blk W (w.heap.size + 1 + 1 + 1 + 1 + 1 + 1 + 1 + 1 + 1) [.int .i64 3, .slice (some ⟨w.heap.size, 0, none⟩) 3 3, .slice none 0 0, .slice (some ⟨w.heap.size + 1 + 1 + 1 + 1 + 1 + 1 + 1 + 1, 0, none⟩) 4 4, .slice none 0 0] 27
  below : Below w.heap.size w W
theorem AwSt.on {w W W' : World} (h : AwSt w W) (hb : Below W.heap.size W W') : AwSt w W' := ⟨h.prog.below hb, h.asg.below hb, h.set.below hb, h.box.below hb, bon h.below hb⟩
def BoxC (b : Nat) (vl vk : Value) (c : PBC) (W : World) : Prop := Blk W b [vl, vk, .int .i64 c.bound] 46 ∧ PBIs W (.agg #[vl, vk, .int .i64 c.bound]) c
theorem BoxC.on {b : Nat} {vl vk : Value} {c : PBC} {W W' : World} (h : BoxC b vl vk c W) (hb : Below W.heap.size W W') : BoxC b vl vk c W' := ⟨h.1.below hb, h.2.below hb⟩
theorem BoxC.new {base : Nat} {W : World} {vl vk : Value} {c : PBC} (h1 : QRow base W vl c.lits) (h2 : QRow base W vk c.coefs) (h3 : InI c.bound ∧ c.lits.length ≤ 65536 ∧ c.coefs.length ≤ 65536) : BoxC W.heap.size vl vk c (W.alloc (.cells #[vl, vk, .int .i64 c.bound] 46)) := by
  have hal := bal (Below.refl W.heap.size W) (.cells #[vl, vk, .int .i64 c.bound] 46)
  exact ⟨Blk.new W [vl, vk, .int .i64 c.bound] _, _, _, rfl, (h1.below hal).ints (by omega), (h2.below hal).ints (by omega), h3.1⟩
def awΦ (i : Nat) (_ : List Value) (v : Value) (lo hi : Nat) (w : World) : Prop :=
  match i with
  | 10 => v = .bool true
  | 14 => v = .string ⟨#[49, 32, 126, 120, 49, 32, 49, 32, 120, 54, 32, 62, 61, 32, 49]⟩
  | 19 => v = .string ⟨#[49, 32, 126, 120, 50, 32, 49, 32, 120, 54, 32, 62, 61, 32, 49]⟩
  | 25 => v = .slice (some ⟨lo, 0, none⟩) 2 2 ∧ lo < hi ∧ Blk w lo [.int .i64 (-1), .int .i64 3] 3
  | 26 => PBIs w v (clauseP [-1, 3]).1 ∧ ∃ al nl cl ak nk ck bd, v = .agg #[.slice al nl cl, .slice ak nk ck, .int .i64 bd]
  | 27 => v = .bool true
  | 32 => v = .slice (some ⟨lo, 0, none⟩) 1 1 ∧ lo < hi ∧ Blk w lo [.int .i64 (-1)] 3
  | 33 => PBIs w v (clauseP [-1]).1 ∧ ∃ al nl cl ak nk ck bd, v = .agg #[.slice al nl cl, .slice ak nk ck, .int .i64 bd]
  | 34 => v = .bool false
  | 39 => v = .slice (some ⟨lo, 0, none⟩) 2 2 ∧ lo < hi ∧ Blk w lo [.int .i8 0, .int .i8 1] 60
  | 40 => v = .slice (some ⟨lo, 0, none⟩) 1 1 ∧ lo < hi ∧ Blk w lo [.int .i64 1] 3
  | 41 => v = .bool true
  | _ => v = .string ⟨#[49, 32, 126, 120, 49, 32, 49, 32, 126, 120, 50, 32, 62, 61, 32, 49]⟩
theorem awΦ_later : ∀ i args v lo hi w w', awΦ i args v lo hi w → Below w.heap.size w w' → awΦ i args v lo hi w' := by
  intro i args v lo hi w w' h hb
  unfold awΦ at *
  split at h <;> first | exact h | exact ⟨h.1, h.2.1, h.2.2.below hb⟩ | exact ⟨h.1.below hb, h.2⟩
theorem PBQ.aw {base : Nat} {w : World} {v : Value} {c : PBC} (h : PBQ base w v c) : PBIs w v c ∧ ∃ al nl cl ak nk ck bd, v = .agg #[.slice al nl cl, .slice ak nk ck, .int .i64 bd] := by
  refine ⟨h.is, ?_⟩
  obtain ⟨vl, vk, rfl, h1, h2, -⟩ := h
  obtain ⟨_, _, _, rfl⟩ := h1.form
  obtain ⟨_, _, _, rfl⟩ := h2.form
  exact ⟨_, _, _, _, _, _, _, rfl⟩
theorem aw_string {c : PBC} {b : Nat} {vl vk : Value} {W : World} (h : BoxC b vl vk c W) (hv : pbV c = true) (hs : ∀ q ∈ c.lits.zip c.coefs, q.1.natAbs < 100 ∧ 0 ≤ q.2 ∧ q.2 < 100) (hb : 0 ≤ c.bound ∧ c.bound < 100) (hl : c.lits.length = c.coefs.length ∧ c.lits.length ≤ 1000) {l : List UInt8} (hl2 : strT c = l) :
    Calls Tryz.prog 28 #[.agg #[vl, vk, .int .i64 c.bound]] W fun e w' => e = .returned (.string ⟨l.toArray⟩) ∧ Below W.heap.size W w' := hl2 ▸ string_any _ c W h.2 hv hs hb hl
set_option maxHeartbeats 4000000 in
set_option maxRecDepth 100000 in
theorem awake27_any (w : World) : Calls Tryz.prog 14 #[] w fun e w' => e = .returned (.bool true) ∧ Below w.heap.size w w' := by
  go_enter Tryz.func14, Tryz.ntmps14
  go_upto_region 4 with fail
  generalize hW : World.alloc _ (.cells #[.int .i64 1, .int .i64 2] 3) = W0
  have hst : AwSt w W0 := by
    refine ⟨?_, ?_, ?_, ?_, ?_⟩
    · rw [← hW]
      refine loop_prog (m := w.heap.size) ((((((((((((Blk.new w [.string ⟨#[97]⟩, .string ⟨#[98]⟩, .string ⟨#[99]⟩] 9).alloc _).alloc _).alloc _).alloc _).alloc _).alloc _).alloc _).alloc _).alloc _).alloc _).alloc _) ?_ ?_ ?_ ?_ ?_ ?_ ?_ ?_ <;> (unfold Blk; simp only [alloc_at]; simp [loopCells])
    · rw [← hW]
      refine Blk.bytes8 (l := aw) ?_ (fit8 (by simp [aw])) (by simp [aw])
      unfold Blk; simp only [alloc_at]; simp [aw]
    · rw [← hW]
      refine Blk.ints (l := [1, 2]) ?_ (fitI (by simp [InI])) (by simp)
      unfold Blk; simp only [alloc_at]; simp
    · rw [← hW]
      unfold Blk; simp only [alloc_at]; simp
    · rw [← hW]
      exact bal (bal (bal (bal (bal (bal (bal (bal (bal (bal (bal (bal (Below.refl _ _) _) _) _) _) _) _) _) _) _) _) _) _
  clear hW
  have HS0 := Lib.hid hst
  have kP0 := hst.box.cell
  clear hst
  go_upto_region 5 with (go_at_call 44; refine (make_any _ _ _ loopP aw [1, 2] 1 _ HS0.out.prog HS0.out.asg HS0.out.set (by unfold InI; omega)).mono ?_; rintro e w1 ⟨vc, e1, hq, hb1⟩; rw [aw_make1] at e1 hq; subst e1; obtain ⟨vl, vk, rfl, hq1, hq2, hq3⟩ := hq; obtain ⟨al1, nl1, cl1, rfl⟩ := hq1.form; obtain ⟨ak1, nk1, ck1, rfl⟩ := hq2.form; have hc1 := BoxC.new hq1 hq2 hq3; have hs1 := (HS0.out.on hb1).on (bal (Below.refl w1.heap.size w1) (.cells #[.slice al1 nl1 cl1, .slice ak1 nk1 ck1, .int .i64 cA.bound] 46)); clear hq1 hq2 hq3 hb1)
  have HS1 := Lib.hid hs1
  have HC1 := Lib.hid hc1
  have kP1 := hs1.box.cell
  clear hs1 hc1 kP0
  generalize w1.alloc (.cells #[.slice al1 nl1 cl1, .slice ak1 nk1 ck1, .int .i64 cA.bound] 46) = W1 at *
  go_upto_region 6 with (go_at_call 44; refine (make_any _ _ _ loopP aw [1, 2] 2 _ HS1.out.prog HS1.out.asg HS1.out.set (by unfold InI; omega)).mono ?_; rintro e w2 ⟨vc, e1, hq, hb1⟩; rw [aw_make2] at e1 hq; subst e1; obtain ⟨vl, vk, rfl, hq1, hq2, hq3⟩ := hq; obtain ⟨al2, nl2, cl2, rfl⟩ := hq1.form; obtain ⟨ak2, nk2, ck2, rfl⟩ := hq2.form; have hc2 := BoxC.new hq1 hq2 hq3; have hal2 := bal (Below.refl w2.heap.size w2) (.cells #[.slice al2 nl2 cl2, .slice ak2 nk2 ck2, .int .i64 cB.bound] 46); have hs2 := (HS1.out.on hb1).on hal2; have hc12 := (HC1.out.on hb1).on hal2; clear hq1 hq2 hq3 hb1 hal2)
  have HS2 := Lib.hid hs2
  have HC2 := Lib.hid hc2
  have HC12 := Lib.hid hc12
  clear hs2 hc2 hc12 kP1
  generalize w2.alloc (.cells #[.slice al2 nl2 cl2, .slice ak2 nk2 ck2, .int .i64 cB.bound] 46) = W2 at *
  go_upto_region 7 with fail
  generalize hW : World.alloc _ (.cells #[.int .i64 2, .slice (some ⟨W2.heap.size, 0, none⟩) 2 2, .slice none 0 0, .slice (some ⟨W2.heap.size + 1 + 1, 0, none⟩) 1 1, .slice none 0 0] 27) = W3
  have hb3 : Below W2.heap.size W2 W3 := by rw [← hW]; exact bal (bal (bal (bal (Below.refl _ _) _) _) _) _
  have hqp : ProgIs W3 (.agg #[.int .i64 2, .slice (some ⟨W2.heap.size, 0, none⟩) 2 2, .slice none 0 0, .slice (some ⟨W2.heap.size + 1 + 1, 0, none⟩) 1 1, .slice none 0 0]) disP := by
    rw [← hW]
    refine dis_prog (n1 := W2.heap.size) (n2 := W2.heap.size + 1) (n3 := W2.heap.size + 1 + 1) ((((Blk.new W2 [.string ⟨#[97]⟩, .string ⟨#[98]⟩] 9).alloc _).alloc _).alloc _) ?_ ?_ <;> (unfold Blk; simp only [alloc_at]; simp)
  have hqb : Blk W3 (W2.heap.size + 1 + 1 + 1) [.int .i64 2, .slice (some ⟨W2.heap.size, 0, none⟩) 2 2, .slice none 0 0, .slice (some ⟨W2.heap.size + 1 + 1, 0, none⟩) 1 1, .slice none 0 0] 27 := by
    rw [← hW]
    unfold Blk; simp only [alloc_at]; simp
  clear hW
  have HS3 := Lib.hid (HS2.out.on hb3)
  have HC13 := Lib.hid (HC12.out.on hb3)
  have HC23 := Lib.hid (HC2.out.on hb3)
  have HQP := Lib.hid hqp
  have HQB := Lib.hid hqb
  have kQ := hqb.cell
  clear hb3 hqp hqb
  have hbA : Below W3.heap.size W3 ((W3.alloc (.cells #[.int .i8 0, .int .i8 1] 60)).alloc (.cells #[.int .i64 1] 3)) := bal (bal (Below.refl _ _) _) _
  have hq8 : Bytes8 ((W3.alloc (.cells #[.int .i8 0, .int .i8 1] 60)).alloc (.cells #[.int .i64 1] 3)) (.slice (some ⟨W3.heap.size, 0, none⟩) 2 2) [0, 1] := Blk.bytes8 (l := [0, 1]) ((Blk.new W3 [.int .i8 0, .int .i8 1] 60).alloc _) (fit8 (by simp)) (by simp)
  have hq1 : Ints ((W3.alloc (.cells #[.int .i8 0, .int .i8 1] 60)).alloc (.cells #[.int .i64 1] 3)) (.slice (some ⟨W3.heap.size + 1, 0, none⟩) 1 1) [1] := (Blk.new2 W3 _ [.int .i64 1] 3).ints1 (by unfold InI; omega)
  have HBA := Lib.hid hbA
  have HQ8 := Lib.hid hq8
  have HQ1 := Lib.hid hq1
  clear hbA hq8 hq1
  go_upto_region 8 with (go_at_call 44; refine (make_any _ _ _ disP [0, 1] [1] 1 _ (HQP.out.below HBA.out) HQ8.out HQ1.out (by unfold InI; omega)).mono ?_; rintro e w4 ⟨vc, e1, hq, hb1⟩; rw [aw_make3] at e1 hq; subst e1; obtain ⟨vl, vk, rfl, hq1, hq2, hq3⟩ := hq; obtain ⟨al3, nl3, cl3, rfl⟩ := hq1.form; obtain ⟨ak3, nk3, ck3, rfl⟩ := hq2.form; have hc3 := BoxC.new hq1 hq2 hq3; have hal4 := bal (Below.refl w4.heap.size w4) (.cells #[.slice al3 nl3 cl3, .slice ak3 nk3 ck3, .int .i64 cC.bound] 46); have hb34 := bon (bon HBA.out hb1) hal4; clear hq1 hq2 hq3 hb1 hal4)
  have HS4 := Lib.hid (HS3.out.on hb34)
  have HC14 := Lib.hid (HC13.out.on hb34)
  have HC24 := Lib.hid (HC23.out.on hb34)
  have HC34 := Lib.hid hc3
  have HQP4 := Lib.hid (HQP.out.below hb34)
  have HQB4 := Lib.hid (HQB.out.below hb34)
  clear hc3 hb34 kQ HBA HQ8 HQ1 HS3 HC13 HC23 HQP HQB
  generalize w4.alloc (.cells #[.slice al3 nl3 cl3, .slice ak3 nk3 ck3, .int .i64 cC.bound] 46) = W4 at *
  have kp : ∀ e : Ext W4, ∀ o, e.world.cell? ⟨w.heap.size + 1 + 1 + 1 + 1 + 1 + 1 + 1 + 1 + 1, o, none⟩ = _ := fun e o => (bcell e.below _ o HS4.out.box.lt).trans (HS4.out.box.cell o)
  have kc : ∀ e : Ext W4, ∀ o, e.world.cell? ⟨w1.heap.size, o, none⟩ = _ := fun e o => (bcell e.below _ o HC14.out.1.lt).trans (HC14.out.1.cell o)
  have kd : ∀ e : Ext W4, ∀ o, e.world.cell? ⟨w2.heap.size, o, none⟩ = _ := fun e o => (bcell e.below _ o HC24.out.1.lt).trans (HC24.out.1.cell o)
  have kg : ∀ e : Ext W4, ∀ o, e.world.cell? ⟨w4.heap.size, o, none⟩ = _ := fun e o => (bcell e.below _ o HC34.out.1.lt).trans (HC34.out.1.cell o)
  have kq : ∀ e : Ext W4, ∀ o, e.world.cell? ⟨W2.heap.size + 1 + 1 + 1, o, none⟩ = _ := fun e o => (bcell e.below _ o HQB4.out.lt).trans (HQB4.out.cell o)
  refine wp_region_perm' awΦ (fun i => i == 10 || i == 14 || i == 19 || i == 25 || i == 26 || i == 27 || i == 32 || i == 33 || i == 34 || i == 39 || i == 40 || i == 41 || i == 45) (by kernel_rfl) (by kernel_rfl) (by kernel_rfl) awΦ_later ?_
  iterate 10 (refine walkP_calm rfl rfl rfl (fun K hK => ?_); go_big_quiet_op; refine hK _ ?_; clear hK K)
  refine walkP_mem rfl rfl (fun wa hba hFa => ?_) (fun v lo hi l g h => ?_)
  · go_simp
    exact (unfounded_any _ _ _ loopP aw [1, 2] _ (HS4.out.on hba).prog (HS4.out.on hba).asg (HS4.out.on hba).set).mono (fun e w2 ⟨h1, h2⟩ => ⟨_, h1.trans (by rw [aw_unf1]), h2, rfl⟩)
  obtain ⟨_, rfl⟩ := h
  simp only [Act.put, List.setIfInBounds_toArray, List.set_cons_succ, List.set_cons_zero]
  iterate 3 (refine walkP_calm rfl rfl rfl (fun K hK => ?_); go_big_quiet_op; refine hK _ ?_; clear hK K)
  refine walkP_mem rfl rfl (fun wa hba hFa => ?_) (fun v lo hi l g h => ?_)
  · go_simp
    exact (aw_string (HC14.out.on hba) aw_pv1 (by decide) (by decide) (by decide) aw_str1).mono (fun e w2 ⟨h1, h2⟩ => ⟨_, h1, h2, rfl⟩)
  obtain ⟨_, rfl⟩ := h
  simp only [Act.put, List.setIfInBounds_toArray, List.set_cons_succ, List.set_cons_zero]
  iterate 4 (refine walkP_calm rfl rfl rfl (fun K hK => ?_); go_big_quiet_op; refine hK _ ?_; clear hK K)
  refine walkP_mem rfl rfl (fun wa hba hFa => ?_) (fun v lo hi l g h => ?_)
  · go_simp
    exact (aw_string (HC24.out.on hba) aw_pv2 (by decide) (by decide) (by decide) aw_str2).mono (fun e w2 ⟨h1, h2⟩ => ⟨_, h1, h2, rfl⟩)
  obtain ⟨_, rfl⟩ := h
  simp only [Act.put, List.setIfInBounds_toArray, List.set_cons_succ, List.set_cons_zero]
  iterate 5 (refine walkP_calm rfl rfl rfl (fun K hK => ?_); go_big_quiet_op; refine hK _ ?_; clear hK K)
  refine walkP_mem rfl rfl (fun wa hba hFa => ?_) (fun v lo hi l g h => ?_)
  · go_simp
    exact ⟨bal (Below.refl _ _) _, rfl, by simp, Blk.new _ _ _⟩
  obtain ⟨_, rfl, -, -⟩ := h
  simp only [Act.put, List.setIfInBounds_toArray, List.set_cons_succ, List.set_cons_zero]
  refine walkP_mem rfl rfl (fun wa hba hFa => ?_) (fun v26 lo hi l g h => ?_)
  · have f0 := hFa _ (.head _) (by kernel_rfl)
    obtain ⟨-, -, f0⟩ := f0
    go_simp
    exact (claw_any _ [-1, 3] _ (Blk.ints (l := [-1, 3]) f0 (fitI (by simp [InI])) (by simp))).mono (fun e w2 ⟨vp, h1, h2, h3⟩ => ⟨_, h1, h3, h2.aw⟩)
  obtain ⟨_, -, al26, nl26, cl26, ak26, nk26, ck26, bd26, rfl⟩ := h
  simp only [Act.put, List.setIfInBounds_toArray, List.set_cons_succ, List.set_cons_zero]
  refine walkP_mem rfl rfl (fun wa hba hFa => ?_) (fun v lo hi l g h => ?_)
  · have f0 := hFa _ (.head _) (by kernel_rfl)
    go_simp
    exact (lval_any _ _ _ loopP [1, 2] _ _ (HS4.out.on hba).prog (HS4.out.on hba).set f0.1).mono (fun e w2 ⟨h1, h2⟩ => ⟨_, h1.trans (by rw [aw_val1]), h2, rfl⟩)
  obtain ⟨_, rfl⟩ := h
  simp only [Act.put, List.setIfInBounds_toArray, List.set_cons_succ, List.set_cons_zero]
  iterate 4 (refine walkP_calm rfl rfl rfl (fun K hK => ?_); go_big_quiet_op; refine hK _ ?_; clear hK K)
  refine walkP_mem rfl rfl (fun wa hba hFa => ?_) (fun v lo hi l g h => ?_)
  · go_simp
    exact ⟨bal (Below.refl _ _) _, rfl, by simp, Blk.new _ _ _⟩
  obtain ⟨_, rfl, -, -⟩ := h
  simp only [Act.put, List.setIfInBounds_toArray, List.set_cons_succ, List.set_cons_zero]
  refine walkP_mem rfl rfl (fun wa hba hFa => ?_) (fun v33 lo hi l g h => ?_)
  · have f0 := hFa _ (.head _) (by kernel_rfl)
    obtain ⟨-, -, f0⟩ := f0
    go_simp
    exact (claw_any _ [-1] _ (f0.ints1 (by unfold InI; omega))).mono (fun e w2 ⟨vp, h1, h2, h3⟩ => ⟨_, h1, h3, h2.aw⟩)
  obtain ⟨_, -, al33, nl33, cl33, ak33, nk33, ck33, bd33, rfl⟩ := h
  simp only [Act.put, List.setIfInBounds_toArray, List.set_cons_succ, List.set_cons_zero]
  refine walkP_mem rfl rfl (fun wa hba hFa => ?_) (fun v lo hi l g h => ?_)
  · have f0 := hFa _ (.head _) (by kernel_rfl)
    go_simp
    exact (lval_any _ _ _ loopP [1, 2] _ _ (HS4.out.on hba).prog (HS4.out.on hba).set f0.1).mono (fun e w2 ⟨h1, h2⟩ => ⟨_, h1.trans (by rw [aw_val2]), h2, rfl⟩)
  obtain ⟨_, rfl⟩ := h
  simp only [Act.put, List.setIfInBounds_toArray, List.set_cons_succ, List.set_cons_zero]
  iterate 4 (refine walkP_calm rfl rfl rfl (fun K hK => ?_); go_big_quiet_op; refine hK _ ?_; clear hK K)
  refine walkP_mem rfl rfl (fun wa hba hFa => ?_) (fun v lo hi l g h => ?_)
  · go_simp
    exact ⟨bal (Below.refl _ _) _, rfl, by simp, Blk.new _ _ _⟩
  obtain ⟨_, rfl, -, -⟩ := h
  simp only [Act.put, List.setIfInBounds_toArray, List.set_cons_succ, List.set_cons_zero]
  refine walkP_mem rfl rfl (fun wa hba hFa => ?_) (fun v lo hi l g h => ?_)
  · go_simp
    exact ⟨bal (Below.refl _ _) _, rfl, by simp, Blk.new _ _ _⟩
  obtain ⟨_, rfl, -, -⟩ := h
  simp only [Act.put, List.setIfInBounds_toArray, List.set_cons_succ, List.set_cons_zero]
  refine walkP_mem rfl rfl (fun wa hba hFa => ?_) (fun v lo hi l g h => ?_)
  · have f40 := hFa _ (.head _) (by kernel_rfl)
    have f39 := hFa _ (.tail _ (.head _)) (by kernel_rfl)
    obtain ⟨-, -, f40⟩ := f40
    obtain ⟨-, -, f39⟩ := f39
    go_simp
    exact (unfounded_any _ _ _ disP [0, 1] [1] _ (HQP4.out.below hba) (Blk.bytes8 (l := [0, 1]) f39 (fit8 (by simp)) (by simp)) (f40.ints1 (by unfold InI; omega))).mono (fun e w2 ⟨h1, h2⟩ => ⟨_, h1.trans (by rw [aw_unf2]), h2, rfl⟩)
  obtain ⟨_, rfl⟩ := h
  simp only [Act.put, List.setIfInBounds_toArray, List.set_cons_succ, List.set_cons_zero]
  iterate 3 (refine walkP_calm rfl rfl rfl (fun K hK => ?_); go_big_quiet_op; refine hK _ ?_; clear hK K)
  refine walkP_mem rfl rfl (fun wa hba hFa => ?_) (fun v lo hi l g h => ?_)
  · go_simp
    exact (aw_string (HC34.out.on hba) aw_pv3 (by decide) (by decide) (by decide) aw_str3).mono (fun e w2 ⟨h1, h2⟩ => ⟨_, h1, h2, rfl⟩)
  obtain ⟨_, rfl⟩ := h
  simp only [Act.put, List.setIfInBounds_toArray, List.set_cons_succ, List.set_cons_zero]
  iterate 3 (refine walkP_calm rfl rfl rfl (fun K hK => ?_); go_big_quiet_op; refine hK _ ?_; clear hK K)
  intro wx hbx hF hI hP
  have HBX := Lib.hid (bon HS4.out.below hbx)
  clear hF hI hP hbx
  go_wp2_with fail
  go_ret
  exact ⟨rfl, HBX.out⟩
end Go.Proofs.YtjodocheiejkeaaGreatDoor
