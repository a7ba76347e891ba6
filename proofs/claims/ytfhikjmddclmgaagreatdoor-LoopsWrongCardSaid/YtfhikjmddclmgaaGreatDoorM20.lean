/- My texts Mk2, PbT, merged. -/
import Derived.Test.YtfhikjmddclmgaaGreatDoorM19
import Derived.Shelf.Abstract
import Derived.Test.YtfhikjmddclmgaaGreatDoorM14

/- loops.Make. -/
namespace Go.Proofs.YtfhikjmddclmgaaGreatDoor
open Go.RowKit Go.Shelf
attribute [local go_sem] Oper.semAt_some

set_option maxHeartbeats 4000000 in
set_option maxRecDepth 100000 in
theorem make_any (vp va vset : Value) (p : GP) (a S : List Int) (u : Int) (w : World) (hP : ProgIs w vp p) (hA : Bytes8 w va a) (hS : Ints w vset S) (hu : InI u) :
    Calls Tryz.prog 10 #[vp, va, vset, .int .i64 u] w fun e w' => ∃ vc, e = .returned (.tuple #[vc, .int .i64 (makeP p a S u).2]) ∧ PBQ w.heap.size w' vc (makeP p a S u).1 ∧ Below w.heap.size w w' := by
  have hP0 := hP
  obtain ⟨vn, vs, vr, vm, rfl, hPS⟩ := hP
  obtain ⟨a1, c1, rfl, -, hl1, -, -⟩ := hPS.rules.form
  obtain ⟨a4, c4, rfl, -, hl4, -, -⟩ := hS.form
  obtain ⟨a9, n9, c9, rfl⟩ : ∃ a9 n9 c9, va = .slice a9 n9 c9 := by obtain ⟨⟨x, y, e, -⟩, -⟩ := hA; exact ⟨_, _, _, e⟩
  have bP := ((Blk.new w [.int .i64 p.n, vn, vs, .slice a1 p.rules.length c1, vm] 27).alloc (.cells #[.slice a9 n9 c9] 28)).alloc (.cells #[.slice none 0 0, .slice none 0 0, .int .i64 0] 30)
  have bA := (Blk.new2 w (.cells #[.int .i64 p.n, vn, vs, .slice a1 p.rules.length c1, vm] 27) [.slice a9 n9 c9] 28).alloc (.cells #[.slice none 0 0, .slice none 0 0, .int .i64 0] 30)
  have bZ := Blk.new ((w.alloc (.cells #[.int .i64 p.n, vn, vs, .slice a1 p.rules.length c1, vm] 27)).alloc (.cells #[.slice a9 n9 c9] 28)) pbZ 30
  have hal : Below w.heap.size w (((w.alloc (.cells #[.int .i64 p.n, vn, vs, .slice a1 p.rules.length c1, vm] 27)).alloc (.cells #[.slice a9 n9 c9] 28)).alloc (.cells #[.slice none 0 0, .slice none 0 0, .int .i64 0] 30)) := bal (bal (bal (Below.refl _ _) _) _) _
  simp only [World.size_alloc] at bZ
  have HP := Lib.hid (hP0.below hal)
  have HA := Lib.hid (hA.below hal)
  have HS := Lib.hid (hS.below hal)
  have HAL := Lib.hid hal
  have BP := Lib.hid bP
  have BA := Lib.hid bA
  have BZ := Lib.hid bZ
  clear hP0 hPS hA hS hal bP bA bZ
  unfold InI at hu
  refine (callsIn_wide (n := 6)).1 ?_
  refine callsIn_of_wp_marks Tryz.func10 rfl trivial ?_ rfl
  simp only [Tryz.ntmps10, List.size_toArray, List.length_cons, List.length_nil, Nat.reduceAdd, Nat.reduceSub, Array.replicate_succ, Array.replicate_zero, List.push_toArray, List.append_toArray, List.nil_append, List.cons_append]
  gi_upto_region 1 with fail
  have kP := BP.out.cell
  have kA := BA.out.cell
  have kZ := BZ.out.cell
  generalize ((w.alloc (.cells #[.int .i64 p.n, vn, vs, .slice a1 p.rules.length c1, vm] 27)).alloc (.cells #[.slice a9 n9 c9] 28)).alloc (.cells #[.slice none 0 0, .slice none 0 0, .int .i64 0] 30) = W3 at *
  cases hun : unfB p a S with
  | false =>
    have HUN := Lib.hid hun
    have HF : Hid (makeP p a S u = (⟨[], [], 0⟩, 2)) := Lib.hid (by unfold makeP; rw [hun]; rfl)
    clear hun
    gi_upto_region 2 with (first | (refine ⟨trivial, ?_⟩; gi_at_call 12; refine (callsIn_wide.2 (unfounded_any _ _ _ p a S W3 HP.out HA.out HS.out)).mono ?_; rintro e w1 ⟨e1, hb1⟩; rw [HUN.out] at e1; subst e1; have HB1 := Lib.hid hb1; clear hb1) | refine ⟨trivial, ?_⟩)
    have kZ1 := (BZ.out.below HB1.out).cell
    have kf1 := (BZ.out.below HB1.out).free
    gi_wp2
    refine ⟨.tuple #[.agg #[.slice none 0 0, .slice none 0 0, .int .i64 0], .int .i64 2], by simp [results, Tryz.f10, go_sem, *], ?_⟩
    have hzZ := BZ.out.lt
    exact ⟨_, by rw [HF.out], by rw [HF.out]; exact ⟨_, _, rfl, QRow.nil _ _, QRow.nil _ _, show InI (0 : Int) from (by unfold InI; omega), Nat.zero_le _, Nat.zero_le _⟩, below3 (bon HAL.out HB1.out) _ (by omega) _ _ _⟩
  | true =>
    by_cases hus : u ∈ S
    · have HUN := Lib.hid hun
      have HUS : Hid (decide (u ∈ S) = true) := Lib.hid (decide_eq_true hus)
      have hv : validE p = 0 ∧ setB' p.n S = true := by
        unfold unfB at hun
        simp only [Bool.and_eq_true, decide_eq_true_eq] at hun
        exact ⟨hun.1, hun.2.1⟩
      have hu2 : 1 ≤ u ∧ u ≤ p.n := by
        obtain ⟨k, hk, e⟩ := mem_ix_iff.1 hus
        have h1 := hv.2
        unfold setB' at h1
        rw [Bool.and_eq_true] at h1
        have := allR_get h1.1 k hk
        unfold setTo at this
        simp only [Bool.and_eq_true, decide_eq_true_eq] at this
        rw [← e]; exact this.1
      have hV := validP hv.1
      have hn := hV.n
      have hr := hV.rules
      have HOK : Hid (∀ k, k < p.rules.length → SUok2 (supAt p S k)) := Lib.hid (fun k hk => ⟨supAt_ok hv.1 S hk, by have := lits_leM (hV.body k hk) hn.1; show (ixR p.rules k).body.length ≤ 8002; omega⟩)
      have HF : Hid (makeP p a S u = clauseP ([-u] ++ reasAll a (supsTo p S p.rules.length))) := Lib.hid (by unfold makeP; rw [hun, decide_eq_true hus]; rfl)
      clear hun hus hv hV
      gi_upto_region 4 with (first | (refine ⟨trivial, ?_⟩; gi_at_call 12; refine (callsIn_wide.2 (unfounded_any _ _ _ p a S W3 HP.out HA.out HS.out)).mono ?_; rintro e w1 ⟨e1, hb1⟩; rw [HUN.out] at e1; subst e1; have HB1 := Lib.hid hb1; clear hb1) | (refine ⟨trivial, ?_⟩; gi_at_call 28; refine (callsIn_wide.2 (contains_any _ S u _ (HS.out.below HB1.out))).mono ?_; rintro e w2 ⟨e2, rfl⟩; rw [HUS.out] at e2; subst e2))
      have hz5 : ((w1.alloc (.cells #[.int .i64 (-u)] 3)).alloc (.cells #[.slice (some ⟨w1.heap.size, 0, none⟩) 1 1] 23)).heap.size = w1.heap.size + 1 + 1 := by simp
      have HZ5 := Lib.hid hz5
      have hb5 := bal (bal HB1.out (.cells #[.int .i64 (-u)] 3)) (.cells #[.slice (some ⟨w1.heap.size, 0, none⟩) 1 1] 23)
      have HB5 := Lib.hid hb5
      have kP5 := (BP.out.below hb5).cell
      have HM5 : Hid (∀ W6, Below (w1.heap.size + 1 + 1) ((w1.alloc (.cells #[.int .i64 (-u)] 3)).alloc (.cells #[.slice (some ⟨w1.heap.size, 0, none⟩) 1 1] 23)) W6 → MkI a (-u) w1 W6.heap.size [] W6) := Lib.hid (fun W6 h => MkI.start (by unfold InI; omega) h)
      clear hz5 hb5
      generalize (w1.alloc (.cells #[.int .i64 (-u)] 3)).alloc (.cells #[.slice (some ⟨w1.heap.size, 0, none⟩) 1 1] 23) = W5 at *
      gi_wp2_with (refine ⟨trivial, ?_⟩; gi_at_call 29; refine (callsIn_wide.2 (supports_any _ _ _ _ _ _ _ _ _ _ _)).mono ?_; rintro e w6 ⟨rfl, hb6, hp6, hs6⟩)
      have HB6 := Lib.hid (bon HB5.out hb6)
      have hsz1 := HB1.out.size
      have hsz5 : w1.heap.size + 2 ≤ W5.heap.size ∧ W5.heap.size ≤ w1.heap.size + 2 := by have := HZ5.out; omega
      have hsz6 := hb6.size
      have hz6 := hs6.lt
      have BA6 := Lib.hid ((BA.out.below HB5.out).below hb6)
      have BZ6 := Lib.hid ((BZ.out.below HB5.out).below hb6)
      have HA6 := Lib.hid (HA.out.below HB6.out)
      have hzA := BA.out.lt
      have hzZ := BZ.out.lt
      have hMI : MkI a (-u) w1 w6.heap.size [] w6 := HM5.out w6 (hb6.mono (by omega))
      have HBw1 := Lib.hid (HB1.out)
      clear kA kZ kP kP5 HM5
      refine wpIn_rangeFunc_ownH rfl (by omega) (gf := 67) (lb := #[.pointer (some ⟨W5.heap.size, 0, none⟩), .pointer (some ⟨W5.heap.size + 1, 0, none⟩)]) rfl trivial (enters_of Tryz.func67 (by kernel_rfl) rfl)
        (sups_stopsR p S W3 w6 vn vs (.slice a1 p.rules.length c1) vm (.slice a4 S.length c4) HP.out HS.out [w1.heap.size, w1.heap.size + 1] _ _ ⟨HB6.out, hp6, hs6⟩ (fun i hi => by simp only [List.mem_cons, List.not_mem_nil, or_false] at hi; omega) ⟨by simp only [List.mem_cons, List.not_mem_nil, or_false]; omega, by simp only [List.mem_cons, List.not_mem_nil, or_false]; omega⟩ HOK.out 5 (by omega))
        (fun h k => h.trans k) (fun W l o o' hl h hc hw => .of_below (belowK_b (w := w6) (Nat.le_refl _) W l o o' hl h hc hw) (Nat.le_refl _)) (Below.refl _ _) (fun _ => rfl)
        (fun pre W => MkI a (-u) w1 w6.heap.size (suw pre) W)
        (fun _ _ _ => False)
        (MkI.ownR (by omega))
        (fun _ _ _ _ _ hs _ _ => hs)
        hMI
        (fun x a' W => ∃ Bx vh vb vw vs9, x.1.1 = .agg #[.bool x.1.2.r.choice, vh, .bool x.1.2.r.sum, .int .i64 x.1.2.r.bound, vb, vw, .int .i64 x.1.2.b, vs9] ∧ (∃ a n c, vh = .slice a n c) ∧ (∃ a n c, vb = .slice a n c) ∧ (∃ a n c, vw = .slice a n c) ∧ (∃ a n c, vs9 = .slice a n c) ∧ Blk W Bx [.bool x.1.2.r.choice, vh, .bool x.1.2.r.sum, .int .i64 x.1.2.r.bound, vb, vw, .int .i64 x.1.2.b, vs9] 68 ∧ a' = { tmps := #[.agg #[.int .i64 p.n, vn, vs, .slice a1 p.rules.length c1, vm], .slice a9 n9 c9, .slice a4 S.length c4, .int .i64 u, .pointer (some ⟨w.heap.size, 0, none⟩), .pointer (some ⟨w.heap.size + 1, 0, none⟩), undef, undef, .pointer (some ⟨w.heap.size + 1 + 1, 0, none⟩), .int .i64 0, .pointer (some ⟨w1.heap.size + 1, 0, none⟩), .pointer (some ⟨Bx, 0, none⟩), .agg #[.int .i64 p.n, vn, vs, .slice a1 p.rules.length c1, vm], .slice a9 n9 c9, .slice a4 S.length c4, .bool true, .bool false, .bool false, .slice a4 S.length c4, .int .i64 u, .bool true, .bool false, .bool false, undef, .int .i64 u, .int .i64 (-u), .slice (some ⟨w1.heap.size, 0, none⟩) 1 1, .agg #[.int .i64 p.n, vn, vs, .slice a1 p.rules.length c1, vm], .slice a4 S.length c4, .func (.func 67) #[] #[.pointer (some ⟨W5.heap.size, 0, none⟩), .pointer (some ⟨W5.heap.size + 1, 0, none⟩)], x.1.1, undef, undef, undef, undef, undef, undef, undef, undef, undef], defers := [] })
        (fun x a' _ X Y row hs hg hr => by obtain ⟨Bx, vh, vb, vw, vs9, h2, f1, f2, f3, f4, h3, h4⟩ := hs; exact ⟨Bx, vh, vb, vw, vs9, h2, f1, f2, f3, f4, blk_own Bx _ _ () X Y row h3 hg (fun r e => (hr r e).2), h4⟩)
        ?assign ?body ?done ?stop
      case assign =>
        rintro l pre x W K hI hK
        obtain ⟨vh, vb, vw, vs9, hx, ⟨x1, x2, x3, rfl⟩, ⟨x4, x5, x6, rfl⟩, ⟨x7, x8, x9, rfl⟩, ⟨y1, y2, y3, rfl⟩⟩ := x.form
        have HX := Lib.hid hx
        have hbn := Blk.new W [.bool x.1.2.r.choice, (.slice x1 x2 x3), .bool x.1.2.r.sum, .int .i64 x.1.2.r.bound, (.slice x4 x5 x6), (.slice x7 x8 x9), .int .i64 x.1.2.b, (.slice y1 y2 y3)] 68
        have HBN := Lib.hid hbn
        have HI := Lib.hid hI
        have hzW : w6.heap.size ≤ W.heap.size := by obtain ⟨v, _, _, _, _, _, h⟩ := hI; exact h
        have HZW := Lib.hid hzW
        dsimp only
        rw [hx]
        clear hx hbn hI hzW
        gi_wp2
        exact hK _ _ ((KeepsOthers.alloc _ _).from _) (.of_below (bal (Below.refl _ _) _) HZW.out) (HI.out.on (bal (Below.refl _ _) _)) ⟨W.heap.size, _, _, _, _, HX.out, ⟨_, _, _, rfl⟩, ⟨_, _, _, rfl⟩, ⟨_, _, _, rfl⟩, ⟨_, _, _, rfl⟩, HBN.out, by rw [HX.out]⟩
      case body =>
        rintro l pre x a' W hl ⟨r, hr⟩ ⟨v, h1, h2, h3, h4, h5, h6⟩ ⟨Bx, vh, vb, vw, vs9, hx, ⟨x1, x2, x3, rfl⟩, ⟨x4, x5, x6, rfl⟩, ⟨x7, x8, x9, rfl⟩, ⟨y1, y2, y3, rfl⟩, bX, rfl⟩ hlt
        obtain ⟨av, nv, cv, rfl⟩ := h2.form
        have hBW : Below W3.heap.size W3 W := HBw1.out.trans (h3.mono hsz1)
        have bA7 := (BA.out.below HBw1.out).same (h3.block (w.heap.size + 1) (by omega))
        have kl : ∀ e : Ext W, e.world.cell? ⟨w1.heap.size + 1, 0, none⟩ = some (.slice av nv cv) := fun e => (bcell e.below _ 0 h1.lt).trans (h1.cell 0)
        have ks : ∀ e : Ext W, ∀ o, e.world.cell? ⟨Bx, o, none⟩ = [Value.bool x.1.2.r.choice, .slice x1 x2 x3, .bool x.1.2.r.sum, .int .i64 x.1.2.r.bound, .slice x4 x5 x6, .slice x7 x8 x9, .int .i64 x.1.2.b, .slice y1 y2 y3][o]? := fun e o => (bcell e.below _ o bX.lt).trans (bX.cell o)
        have ka : ∀ e : Ext W, e.world.cell? ⟨w.heap.size + 1, 0, none⟩ = some (.slice a9 n9 c9) := fun e => (bcell e.below _ 0 bA7.lt).trans (bA7.cell 0)
        have HSU : Hid (SupIs W (.agg #[.bool x.1.2.r.choice, .slice x1 x2 x3, .bool x.1.2.r.sum, .int .i64 x.1.2.r.bound, .slice x4 x5 x6, .slice x7 x8 x9, .int .i64 x.1.2.b, .slice y1 y2 y3]) x.1.2) := Lib.hid (hx ▸ x.2.1.below hBW)
        have HAW := Lib.hid (HA.out.below hBW)
        have HPL : Hid (([-u] ++ reasAll a (suw pre)).length + (reasP x.1.2 a).length ≤ 400000000) := Lib.hid (by
          have e1 := reasP_len x.1.2 a
          have e2 := x.2.2.2
          rw [suw_len] at h4
          omega)
        have HZW := Lib.hid h3.size
        gi_upto_region 6 with fail
        refine wp_region_tailR 4 (fun _ => True) (mkΦ (reasP x.1.2 a)) (fun i => i == 3) (by kernel_rfl) (by kernel_rfl) (by kernel_rfl) (by kernel_rfl) (fun _ _ => trivial) (mkΦ_later _) ?_
        simp only [List.take_succ_cons, List.take_zero, List.drop_succ_cons, List.drop_zero]
        iterate 3 (refine walkP_head (by kernel_rfl) rfl rfl rfl (fun K hK => ?_); go_big_quiet_op; refine hK _ ?_; clear hK K)
        refine walkP_mem rfl rfl (fun wa hba hFa => ?_) (fun v3 lo3 hi3 l3 g3 h3' => ?_)
        · go_simp
          refine (reasons_any _ _ x.1.2 a _ (HSU.out.below hba) x.2.2.1 (HAW.out.below hba)).mono ?_
          rintro e w2 ⟨v, rfl, hi, hb⟩
          obtain ⟨xa, xc, e9, -⟩ := hi.form
          exact ⟨_, rfl, hb, hi, _, _, _, e9⟩
        obtain ⟨_, -, xa, xn, xc, rfl⟩ := h3'
        simp only [Act.put, List.setIfInBounds_toArray, List.set_cons_succ, List.set_cons_zero]
        intro wx hbx hF hI hP
        have f3 := hF _ (.head _)
        obtain ⟨hi3, -⟩ := f3
        refine ⟨rfl, rfl, ?_⟩
        refine wp_appendM (.tmp 31) (.tmp 34) rfl w1.heap.size (.slice av nv cv) (.slice xa xn xc) ([-u] ++ reasAll a (suw pre)) (reasP x.1.2 a) rfl rfl (h2.below hbx) hi3 (by have := HPL.out; omega) (by have := hbx.size; have := HZW.out; omega) ?_
        intro v' w7 hq7 hg7 ho7
        obtain ⟨hb7, hI7, hL7, hK7⟩ := MkI.push (h1.below hbx) (h2.below hbx) (h3.trans (hbx.mono h3.size)) h4 h5 (Nat.le_trans h6 hbx.size) x.2.2.2 hq7 hg7 ho7
        obtain ⟨a8, n8, c8, rfl⟩ := hq7.form
        refine ⟨trivial, rfl, rfl, ?_⟩
        have kc := hb7.cell 0
        have kf := hb7.free 0
        have HI7 := Lib.hid hI7
        have HL7 := Lib.hid ((Lim.of_below hbx h6).trans hL7)
        have HK7 := Lib.hid ((keeps_below hbx).trans hK7)
        clear hI7 hL7 hK7
        simp only [Act.put, List.setIfInBounds_toArray, List.set_cons_succ, List.set_cons_zero]
        go_simp
        exact ⟨rfl, HK7.out, HL7.out, by show MkI a (-u) w1 w6.heap.size (suw (pre ++ [x])) _; rw [suw_snoc]; exact HI7.out⟩
      case done =>
        rintro D xs W hD hS ⟨v, h1, h2, h3, h4, h5, h6⟩ hK
        obtain ⟨av, nv, cv, rfl⟩ := h2.form
        have kl := h1.cell 0
        have hxl := supsTo_len p S p.rules.length
        rw [← hS] at hxl
        have HL := Lib.hid (h2.ints (by omega))
        have HF2 : Hid (makeP p a S u = clauseP ([-u] ++ reasAll a (suw xs))) := Lib.hid (by rw [HF.out, hS])
        have HBW := Lib.hid (((HAL.out.trans (HBw1.out.mono HAL.out.size)).trans (h3.mono (by have := HAL.out.size; omega))))
        have HZW := Lib.hid ((BZ.out.below HBw1.out).same (h3.block (w.heap.size + 1 + 1) (by omega)))
        have hDW : D < W.heap.size := (Array.getElem?_eq_some_iff.1 hK).1
        have HK := Lib.hid hK
        have HDW := Lib.hid hDW
        have hzw : w.heap.size + 1 + 1 < W.heap.size := by omega
        have HZZ := Lib.hid hzw
        clear h1 h2 h3 h4 h5 h6 hS hK hDW hzw HF
        generalize [-u] ++ reasAll a (suw xs) = LL at *
        gi_wp2_with (refine ⟨trivial, ?_⟩; gi_at_call 21; refine (callsIn_wide.2 (clause_any _ _ _ HL.out)).mono ?_; rintro e w8 ⟨vp, rfl, ⟨vl, vk, rfl, hq1, hq2, hq3⟩, hb8⟩; obtain ⟨al, nl, cl, rfl⟩ := hq1.form; obtain ⟨ak, nk, ck, rfl⟩ := hq2.form; have HQ1 := Lib.hid hq1; have HQ2 := Lib.hid hq2; have HQ3 := Lib.hid hq3; have HB8 := Lib.hid hb8; have hz8 := HZW.out.below hb8; have HZ8 := Lib.hid hz8; have kx := hz8.cell; have kf := hz8.free; clear hq1 hq2 hq3 hb8 hz8)
        have hK3 : ((((w8.setCell ⟨w.heap.size + 1 + 1, 0, none⟩ (.slice al nl cl)).setCell ⟨w.heap.size + 1 + 1, 1, none⟩ (.slice ak nk ck)).setCell ⟨w.heap.size + 1 + 1, 2, none⟩ (.int .i64 (clauseP LL).1.bound)).heap[D]? = some (.deferred (some []))) :=
          ((((Below.heap_setCell _ _ _ _ (by show D ≠ w.heap.size + 1 + 1; omega)).trans (Below.heap_setCell _ _ _ _ (by show D ≠ w.heap.size + 1 + 1; omega))).trans (Below.heap_setCell _ _ _ _ (by show D ≠ w.heap.size + 1 + 1; omega))).trans (HB8.out.block D HDW.out)).trans HK.out
        have hzB : Blk (((w8.setCell ⟨w.heap.size + 1 + 1, 0, none⟩ (.slice al nl cl)).setCell ⟨w.heap.size + 1 + 1, 1, none⟩ (.slice ak nk ck)).setCell ⟨w.heap.size + 1 + 1, 2, none⟩ (.int .i64 (clauseP LL).1.bound)) (w.heap.size + 1 + 1) [.slice al nl cl, .slice ak nk ck, .int .i64 (clauseP LL).1.bound] 30 := ((HZ8.out.set 0 _).set 1 _).set 2 _
        have hq1 := row3 HQ1.out (w.heap.size + 1 + 1) HZZ.out (.slice al nl cl) (.slice ak nk ck) (.int .i64 (clauseP LL).1.bound)
        have hq2 := row3 HQ2.out (w.heap.size + 1 + 1) HZZ.out (.slice al nl cl) (.slice ak nk ck) (.int .i64 (clauseP LL).1.bound)
        have hbF := below3 (bon HBW.out HB8.out) (w.heap.size + 1 + 1) (by omega) (.slice al nl cl) (.slice ak nk ck) (.int .i64 (clauseP LL).1.bound)
        refine ⟨by simp, .inl ⟨_, _, rfl, run_takeDeferred hK3, ?_⟩⟩
        generalize ((w8.setCell ⟨w.heap.size + 1 + 1, 0, none⟩ (.slice al nl cl)).setCell ⟨w.heap.size + 1 + 1, 1, none⟩ (.slice ak nk ck)).setCell ⟨w.heap.size + 1 + 1, 2, none⟩ (.int .i64 (clauseP LL).1.bound) = W9 at *
        have hrow : ∀ r, some D = some r → ∃ o : Obj, W9.heap[r]? = some o ∧ o.isCells = false := fun r e => by cases e; exact ⟨_, hK3, rfl⟩
        have kz := (blk_own _ _ _ () W9 _ _ hzB (grownBy_putObj' W9 D (.deferred none)) hrow).cell
        refine ⟨.tuple #[.agg #[.slice al nl cl, .slice ak nk ck, .int .i64 (clauseP LL).1.bound], .int .i64 (clauseP LL).2], by simp [results, Tryz.f10, go_sem, kz], _, by rw [HF2.out], ?_, hbF.trans (belowK_b (w := w) (Nat.le_refl _) W9 D _ _ (by omega) hK3 rfl rfl)⟩
        rw [HF2.out]
        have hzz := HZZ.out
        exact ⟨_, _, rfl, (hq1.ownR (grownBy_putObj' W9 D (.deferred none)) hrow).mono (by omega), (hq2.ownR (grownBy_putObj' W9 D (.deferred none)) hrow).mono (by omega), HQ3.out⟩
      case stop =>
        rintro D c pre W _ _ h _
        exact h.elim
    · have HUN := Lib.hid hun
      have HUS : Hid (decide (u ∈ S) = false) := Lib.hid (decide_eq_false hus)
      have HF : Hid (makeP p a S u = (⟨[], [], 0⟩, 2)) := Lib.hid (by unfold makeP; rw [hun, decide_eq_false hus]; rfl)
      clear hun hus
      gi_upto_region 2 with (first | (refine ⟨trivial, ?_⟩; gi_at_call 12; refine (callsIn_wide.2 (unfounded_any _ _ _ p a S W3 HP.out HA.out HS.out)).mono ?_; rintro e w1 ⟨e1, hb1⟩; rw [HUN.out] at e1; subst e1; have HB1 := Lib.hid hb1; clear hb1) | (refine ⟨trivial, ?_⟩; gi_at_call 28; refine (callsIn_wide.2 (contains_any _ S u _ (HS.out.below HB1.out))).mono ?_; rintro e w2 ⟨e2, rfl⟩; rw [HUS.out] at e2; subst e2))
      have kZ1 := (BZ.out.below HB1.out).cell
      have kf1 := (BZ.out.below HB1.out).free
      gi_wp2
      refine ⟨.tuple #[.agg #[.slice none 0 0, .slice none 0 0, .int .i64 0], .int .i64 2], by simp [results, Tryz.f10, go_sem, *], ?_⟩
      have hzZ := BZ.out.lt
      exact ⟨_, by rw [HF.out], by rw [HF.out]; exact ⟨_, _, rfl, QRow.nil _ _, QRow.nil _ _, show InI (0 : Int) from (by unfold InI; omega), Nat.zero_le _, Nat.zero_le _⟩, below3 (bon HAL.out HB1.out) _ (by omega) _ _ _⟩

end Go.Proofs.YtfhikjmddclmgaaGreatDoor

/- pb.String: the walk. -/
namespace Go.Proofs.YtfhikjmddclmgaaGreatDoor
open Go.RowKit Go.Shelf
attribute [local go_sem] Oper.semAt_some

set_option maxHeartbeats 4000000 in
set_option maxRecDepth 100000 in
theorem string_any (v : Value) (c : PBC) (w : World) (h : PBIs w v c) (hv : pbV c = true) (hsm : ∀ q ∈ c.lits.zip c.coefs, q.1.natAbs < 100 ∧ 0 ≤ q.2 ∧ q.2 < 100) (hbs : 0 ≤ c.bound ∧ c.bound < 100) (hln : c.lits.length = c.coefs.length ∧ c.lits.length ≤ 1000) :
    Calls Tryz.prog 26 #[v] w fun e w' => e = .returned (.string ⟨(strT c).toArray⟩) ∧ Below w.heap.size w w' := by
  obtain ⟨vl, vk, rfl, hL, hK, hbd⟩ := h
  obtain ⟨a1, c1, rfl, -, hl1, -, -⟩ := hL.form
  obtain ⟨a2, c2, rfl, -, hl2, -, -⟩ := hK.form
  have hal : Below w.heap.size w (w.alloc (.cells #[.slice a1 c.lits.length c1, .slice a2 c.coefs.length c2, .int .i64 c.bound] 30)) := bal (Below.refl _ _) _
  have HAL := Lib.hid hal
  have HC : Hid (PBIs (w.alloc (.cells #[.slice a1 c.lits.length c1, .slice a2 c.coefs.length c2, .int .i64 c.bound] 30)) (.agg #[.slice a1 c.lits.length c1, .slice a2 c.coefs.length c2, .int .i64 c.bound]) c) := Lib.hid ⟨_, _, rfl, hL.below hal, hK.below hal, hbd⟩
  have BB := Lib.hid (Blk.new w [.slice a1 c.lits.length c1, .slice a2 c.coefs.length c2, .int .i64 c.bound] 30)
  have HL := Lib.hid hL
  have HK := Lib.hid hK
  have HV := Lib.hid hv
  have HSM := Lib.hid hsm
  have hlz : (c.lits.zip c.coefs).length ≤ 1000 := by simp; omega
  have HLN := Lib.hid hln.1
  have hlm := hln.2
  clear hln
  clear hL hK hal hv hsm
  refine (callsIn_wide (n := 6)).1 ?_
  refine callsIn_of_wp_marks Tryz.func26 rfl trivial ?_ rfl
  simp only [Tryz.ntmps26, List.size_toArray, List.length_cons, List.length_nil, Nat.reduceAdd, Nat.reduceSub, Array.replicate_succ, Array.replicate_zero, List.push_toArray, List.append_toArray, List.nil_append, List.cons_append]
  gi_upto_region 1 with fail
  have kB := BB.out.cell
  have hltB := BB.out.lt
  generalize w.alloc (.cells #[.slice a1 c.lits.length c1, .slice a2 c.coefs.length c2, .int .i64 c.bound] 30) = w0 at *
  gi_wp2_with (first
    | (refine ⟨trivial, ?_⟩; gi_at_call 51; refine (callsIn_wide.2 (parts_any2 _ _ _ _ ⟨_, _, _, rfl⟩ ⟨_, _, _, rfl⟩)).mono ?_; rintro e w3 ⟨rfl, hb3, hp3, hs3⟩)
    | (refine ⟨trivial, ?_⟩; gi_at_call 18; refine (callsIn_wide.2 (pbValid_any _ c _ HC.out)).mono ?_; rintro e w1 ⟨e1, hb1⟩; rw [HV.out] at e1; subst e1; have HB1 := Lib.hid hb1; have kB1 := fun o => (bcell hb1 _ o hltB).trans (kB o); have hz1 : w.heap.size < w1.heap.size := (by have := hb1.size; omega); clear hb1))
  have hald := bal (Below.refl w1.heap.size w1) (.cells #[.pointer none, .slice none 0 0] 99)
  have hsz : (w1.alloc (.cells #[.pointer none, .slice none 0 0] 99)).heap.size = w1.heap.size + 1 := by simp
  have hbb := (Blk.new w1 [.pointer none, .slice none 0 0] 99).below hb3
  have HBW := Lib.hid (bon (bon HAL.out HB1.out) (hald.trans (hb3.mono (by omega))))
  have hbox1 := ((BB.out.below HB1.out).below hald).below hb3
  simp only [World.size_alloc] at hp3 hs3
  have HS0 : Hid (StSt w.heap.size w1.heap.size (w1.heap.size + 1) (w1.heap.size + 2) [.slice a1 c.lits.length c1, .slice a2 c.coefs.length c2, .int .i64 c.bound] w1 [] w3) := Lib.hid ⟨.inl ⟨Nat.le_refl _, .slice none 0 0, hbb, World.ownsRowF_nil _ _ _ _, by simp [Value.ownBlock]⟩, hp3, hbox1, hald.trans (hb3.mono (by omega)), by omega⟩
  have hst : PartSt w w3 [w1.heap.size] (w1.heap.size + 1) (.slice a1 c.lits.length c1) (.slice a2 c.coefs.length c2) c.bound := ⟨fun i hi => HBW.out.block i hi, HBW.out.size, hp3⟩
  have hz3 : w3.heap.size = w1.heap.size + 2 := by omega
  have HZ3 := Lib.hid hz3
  clear hz3 hsz hs3 hald hbb hbox1
  refine parts_loop HL.out HK.out HLN.out hst (fun s hs => by simp only [List.mem_cons, List.not_mem_nil, or_false] at hs; omega) (by simp <;> omega) (by omega) rfl rfl
    (fun pre W => StSt w.heap.size w1.heap.size (w1.heap.size + 1) (w1.heap.size + 2) [.slice a1 c.lits.length c1, .slice a2 c.coefs.length c2, .int .i64 c.bound] w1 (headT (pvs pre)) W)
    (fun _ _ _ => False)
    (StSt.own (by have := HZ3.out; omega)) (fun _ _ _ _ _ h _ _ => h)
    HS0.out ?a1 ?assign ?body ?done ?stop
  case assign =>
    intro l x W K hK
    gi_wp2
    exact hK
  case body =>
    rintro l pre x W hI hlt
    have hx := HSM.out x.1 x.2
    have HTL : Hid ((headT (pvs pre)).length ≤ 8000) := Lib.hid (by
      have h1 := headT_len (l := pvs pre) (fun q hq => by
        obtain ⟨y, _, rfl⟩ := List.mem_map.1 hq
        exact HSM.out y.1 y.2)
      rw [pvs_len] at h1
      omega)
    have HI := Lib.hid hI
    have hszW : w1.heap.size + 2 ≤ W.heap.size := hI.size
    clear hI
    obtain ⟨⟨x1, x2⟩, hxm⟩ := x
    dsimp only at hx ⊢
    obtain ⟨k2, rfl⟩ : ∃ k2 : Nat, x2 = k2 := ⟨x2.toNat, by omega⟩
    have hk2 : k2 < 100 := by omega
    obtain ⟨k1, hk1⟩ : ∃ k1 : Nat, x1.natAbs = k1 := ⟨_, rfl⟩
    have HX1 : Hid (-4611686018427387904 ≤ x1 ∧ x1 ≤ 4611686018427387904) := Lib.hid (by omega)
    have HD2 := Lib.hid (dec_len hk2)
    have hk1' : k1 < 100 := by omega
    have HD1 := Lib.hid (dec_len hk1')
    have hd1 := HD1.out
    have hd2 := HD2.out
    by_cases g1 : x1 < 0
    · gi_wp2_with (first
        | (refine ⟨trivial, ?_⟩; gi_at_call 63; (with_reducible refine (CallsIn.inRound l (callsIn_wide.2 (ws_txt HS5.out rfl hz1 ([120] ++ Lib.decDigits k1 ++ [32]) _ (cat3_list [120] (Lib.decDigits k1) [32]) (by have := HTL.out; have := HD2.out; have := HD1.out; simp; omega)))).mono ?_); rintro e W6 ⟨rfl, hs6, hl6, hk6⟩; have HS6 := Lib.hid hs6; have HL6 := Lib.hid hl6; have HK6 := Lib.hid hk6; clear hs6 hl6 hk6)
        | (refine ⟨trivial, ?_⟩; gi_at_call 64; (with_reducible refine (CallsIn.inRound l (callsIn_wide.2 (Tryz.strconv_Itoa_small k1 hk1' _))).mono ?_); rintro e Wi ⟨rfl, rfl⟩)
        | (refine ⟨trivial, ?_⟩; gi_at_call 53; refine (CallsIn.inRound l (callsIn_wide.2 (abs_any x1 HX1.out _))).mono ?_; rintro e Wi ⟨rfl, rfl⟩; rw [hk1])
        | (refine ⟨trivial, ?_⟩; gi_at_call 63; (with_reducible refine (CallsIn.inRound l (callsIn_wide.2 (ws_txt HS4.out rfl hz1 ([126]) _ (rfl) (by have := HTL.out; have := HD2.out; have := HD1.out; simp; omega)))).mono ?_); rintro e W5 ⟨rfl, hs5, hl5, hk5⟩; have HS5 := Lib.hid hs5; have HL5 := Lib.hid hl5; have HK5 := Lib.hid hk5; clear hs5 hl5 hk5)
        | (refine ⟨trivial, ?_⟩; gi_at_call 63; (with_reducible refine (CallsIn.inRound l (callsIn_wide.2 (ws_txt HI.out rfl hz1 (Lib.decDigits k2 ++ [32]) _ (cat_list (Lib.decDigits k2) [32]) (by have := HTL.out; have := HD2.out; have := HD1.out; simp; omega)))).mono ?_); rintro e W4 ⟨rfl, hs4, hl4, hk4⟩; have HS4 := Lib.hid hs4; have HL4 := Lib.hid hl4; have HK4 := Lib.hid hk4; clear hs4 hl4 hk4)
        | (refine ⟨trivial, ?_⟩; gi_at_call 64; (with_reducible refine (CallsIn.inRound l (callsIn_wide.2 (Tryz.strconv_Itoa_small k2 hk2 _))).mono ?_); rintro e Wi ⟨rfl, rfl⟩))
      refine ⟨(HK4.out.trans HK5.out).trans HK6.out, by rw [HZ3.out]; exact (HL4.out.trans HL5.out).trans HL6.out, ?_⟩
      have hfin := HS6.out
      show StSt _ _ _ _ _ _ (headT (pvs (pre ++ [⟨(x1, (k2 : Int)), hxm⟩]))) _
      rw [pvs_snoc, headT_snoc]
      simpa [itemT, g1, hk1, List.append_assoc] using hfin
    · gi_wp2_with (first
        | (refine ⟨trivial, ?_⟩; gi_at_call 63; (with_reducible refine (CallsIn.inRound l (callsIn_wide.2 (ws_txt HS4.out rfl hz1 ([120] ++ Lib.decDigits k1 ++ [32]) _ (cat3_list [120] (Lib.decDigits k1) [32]) (by have := HTL.out; have := HD2.out; have := HD1.out; simp; omega)))).mono ?_); rintro e W6 ⟨rfl, hs6, hl6, hk6⟩; have HS6 := Lib.hid hs6; have HL6 := Lib.hid hl6; have HK6 := Lib.hid hk6; clear hs6 hl6 hk6)
        | (refine ⟨trivial, ?_⟩; gi_at_call 64; (with_reducible refine (CallsIn.inRound l (callsIn_wide.2 (Tryz.strconv_Itoa_small k1 hk1' _))).mono ?_); rintro e Wi ⟨rfl, rfl⟩)
        | (refine ⟨trivial, ?_⟩; gi_at_call 53; refine (CallsIn.inRound l (callsIn_wide.2 (abs_any x1 HX1.out _))).mono ?_; rintro e Wi ⟨rfl, rfl⟩; rw [hk1])
        | (refine ⟨trivial, ?_⟩; gi_at_call 63; (with_reducible refine (CallsIn.inRound l (callsIn_wide.2 (ws_txt HI.out rfl hz1 (Lib.decDigits k2 ++ [32]) _ (cat_list (Lib.decDigits k2) [32]) (by have := HTL.out; have := HD2.out; have := HD1.out; simp; omega)))).mono ?_); rintro e W4 ⟨rfl, hs4, hl4, hk4⟩; have HS4 := Lib.hid hs4; have HL4 := Lib.hid hl4; have HK4 := Lib.hid hk4; clear hs4 hl4 hk4)
        | (refine ⟨trivial, ?_⟩; gi_at_call 64; (with_reducible refine (CallsIn.inRound l (callsIn_wide.2 (Tryz.strconv_Itoa_small k2 hk2 _))).mono ?_); rintro e Wi ⟨rfl, rfl⟩))
      refine ⟨HK4.out.trans HK6.out, by rw [HZ3.out]; exact HL4.out.trans HL6.out, ?_⟩
      have hfin := HS6.out
      show StSt _ _ _ _ _ _ (headT (pvs (pre ++ [⟨(x1, (k2 : Int)), hxm⟩]))) _
      rw [pvs_snoc, headT_snoc]
      unfold itemT
      rw [if_neg (show ¬ x1 < 0 by omega)]
      simpa [hk1, List.append_assoc] using hfin
  case done =>
    rintro D xs W hD hS hI hK
    have HTL : Hid ((headT (pvs xs)).length ≤ 8000) := Lib.hid (by
      have h1 := headT_len (l := pvs xs) (fun q hq => by
        obtain ⟨y, _, rfl⟩ := List.mem_map.1 hq
        exact HSM.out y.1 y.2)
      rw [hS] at h1 ⊢
      omega)
    obtain ⟨kb, hkb⟩ : ∃ kb : Nat, c.bound = kb := ⟨c.bound.toNat, by omega⟩
    have hkb2 : kb < 100 := by omega
    have HDB := Lib.hid (dec_len hkb2)
    have hdb := HDB.out
    have HF : Hid (strT c = headT (pvs xs) ++ ([62, 61, 32] ++ Lib.decDigits kb)) := Lib.hid (by unfold strT; rw [hS, hkb]; rfl)
    have HI := Lib.hid hI
    have kb1 := hI.box1.cell
    rw [hkb] at kb1
    have HK0 := Lib.hid hK
    have HBW1 := Lib.hid (bon HAL.out HB1.out)
    clear hS hI hK hkb
    gi_wp2_with (first
      | (refine ⟨trivial, ?_⟩; gi_at_call 65; refine (callsIn_wide.2 (Tryz.Builder_String_any_k w1.heap.size w1.heap.size _ _ HS4.out.bld (by have := HS4.out.size; omega))).mono ?_; rintro e W5 ⟨rfl, -, hb5, ho5⟩; have HB5 := Lib.hid hb5; have HO5 := Lib.hid ho5; clear hb5 ho5)
      | (refine ⟨trivial, ?_⟩; gi_at_call 63; (with_reducible refine (callsIn_wide.2 (ws_txt HI.out rfl hz1 ([62, 61, 32] ++ Lib.decDigits kb) _ (cat_list [62, 61, 32] (Lib.decDigits kb)) (by have := HTL.out; have := HDB.out; simp; omega))).mono ?_); rintro e W4 ⟨rfl, hs4, hl4, hk4⟩; have HS4 := Lib.hid hs4; have HK4 := Lib.hid hk4; clear hs4 hl4 hk4)
      | (refine ⟨trivial, ?_⟩; gi_at_call 64; (with_reducible refine (callsIn_wide.2 (Tryz.strconv_Itoa_small kb hkb2 _)).mono ?_); rintro e Wi ⟨rfl, rfl⟩))
    have hK4 := HK4.out.2 D _ HK0.out rfl
    have hz3 := HZ3.out
    have hK5 := HO5.out D _ hK4 (fun e => by have := Option.some.inj e; omega) (fun c fz e => by cases e)
    refine ⟨by simp, .inl ⟨_, _, rfl, run_takeDeferred hK5, ?_⟩⟩
    refine ⟨.string ⟨(headT (pvs xs) ++ ([62, 61, 32] ++ Lib.decDigits kb)).toArray⟩, by simp [results, Tryz.f26, go_sem], by rw [HF.out], ?_⟩
    exact (HBW1.out.trans ((HS4.out.below.trans HB5.out).mono (by omega))).trans (belowK_b (w := w) (Nat.le_refl _) W5 D _ _ (by omega) hK5 rfl rfl)
  case stop => rintro D e pre W hD hS ⟨⟩

end Go.Proofs.YtfhikjmddclmgaaGreatDoor
