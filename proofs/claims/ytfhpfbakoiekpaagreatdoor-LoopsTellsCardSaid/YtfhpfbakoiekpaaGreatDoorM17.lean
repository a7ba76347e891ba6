/- My texts Rf27c, Lt0, Rf24v, merged. -/
import Derived.Test.YtfhpfbakoiekpaaGreatDoorM08
import Derived.Test.YtfhpfbakoiekpaaGreatDoorM16
import Derived.Test.YtfhpfbakoiekpaaGreatDoorM15
import Derived.Test.YtfhpfbakoiekpaaGreatDoorM14
import Derived.Test.YtfhpfbakoiekpaaGreatDoorM12

/- ostlerref27: All. -/
namespace Go.Proofs.YtfhpfbakoiekpaaGreatDoor
open Go.RowKit

/-- The support by rule i is excluded, or there is none. -/
def ways (p : GP) (S D : List Int) (i : Nat) : Bool := w1B (ixR p.rules i) S || w2B (ixR p.rules i) S D || decide (p.n + 1 + (i : Int) ∈ D) || w4B (ixR p.rules i) D || w5B (ixR p.rules i) S D
def allE (p : GP) (S D : List Int) (i : Nat) : Bool := !headIn S (ixR p.rules i) || ways p S D i
def allB27 (p : GP) (S D : List Int) : Bool := allR p.rules.length (allE p S D)

/-- What a round of All leans on. -/
structure AlSt (w : World) (cp : List Value) (rb : Nat) (cr : List Value) (r : GR) (vh vb vw vS vD : Value) (S D : List Int) (W : World) : Prop where
  pbx : Blk W w.heap.size cp 27
  rbx : Blk W rb cr 54
  sl : RuleSl W r vh vb vw
  set : Ints W vS S
  dd : Ints W vD D
  below : Below w.heap.size w W

theorem AlSt.on {w : World} {cp : List Value} {rb : Nat} {cr : List Value} {r : GR} {vh vb vw vS vD : Value} {S D : List Int} {W W' : World} (h : AlSt w cp rb cr r vh vb vw vS vD S D W) (hb : Below W.heap.size W W') : AlSt w cp rb cr r vh vb vw vS vD S D W' :=
  ⟨h.pbx.below hb, h.rbx.below hb, h.sl.below hb, h.set.below hb, h.dd.below hb, bon h.below hb⟩
theorem AlSt.rule {w : World} {cp : List Value} {rb : Nat} {cr : List Value} {r : GR} {vh vb vw vS vD : Value} {S D : List Int} {W : World} (h : AlSt w cp rb cr r vh vb vw vS vD S D W) : RuleIs W (.agg #[.bool r.choice, vh, .bool r.sum, .int .i64 r.bound, vb, vw]) r := ⟨_, _, _, rfl, h.sl⟩

def AlRel (p : GP) (S D : List Int) (c : List Value) (w : World) (i : Value) (wx : World) : Prop :=
  ∃ k : Nat, k ≤ p.rules.length ∧ i = .int .i64 k ∧ (∀ j, j < k → allE p S D j = true) ∧ Blk wx w.heap.size c 27 ∧ Below w.heap.size w wx

theorem head_neg {p : GP} (hv : validE p = 0) {k : Nat} (hk : k < p.rules.length) : ∀ j, j < (ixR p.rules k).head.length → -9223372036854775808 < ix (ixR p.rules k).head j := fun j hj => by
  have h := inc_mem ((validP hv).head k hk) (ix_mem hj)
  omega

set_option maxHeartbeats 8000000 in
set_option maxRecDepth 100000 in
theorem rall_any (v vm vd : Value) (p : GP) (S D : List Int) (w : World) (h : ProgIs w v p) (hm : Ints w vm S) (hd : Ints w vd D) (hv : validE p = 0) :
    Calls Tryz.prog 42 #[v, vm, vd] w fun e w' => e = .returned (.bool (allB27 p S D)) ∧ Below w.heap.size w w' := by
  obtain ⟨vn, vs, vr, vmn, rfl, hn, -, -, hrules, -⟩ := h
  obtain ⟨a1, c1, rfl, -, hl1, -, hcell⟩ := hrules.form
  obtain ⟨am, cm, rfl, -⟩ := hm.form
  obtain ⟨ad, cd, rfl, -⟩ := hd.form
  have hal := bal (Below.refl w.heap.size w) (.cells #[.int .i64 p.n, vn, vs, .slice a1 p.rules.length c1, vmn] 27)
  have HAL := Lib.hid hal
  have HBK := Lib.hid (Blk.new w [.int .i64 p.n, vn, vs, .slice a1 p.rules.length c1, vmn] 27)
  have HV := Lib.hid hv
  have HM := Lib.hid hm
  have HD := Lib.hid hd
  have hn0 := (validP hv).n
  have hr0 := (validP hv).rules
  clear hal hm hd hv hrules
  go_enter Tryz.func42, Tryz.ntmps42
  go_upto_region 2 with fail
  generalize w.alloc (.cells #[.int .i64 p.n, vn, vs, .slice a1 p.rules.length c1, vmn] 27) = W0 at *
  go_loopw [7] (fun i wx => AlRel p S D [.int .i64 p.n, vn, vs, .slice a1 p.rules.length c1, vmn] w i wx) (fun i _ => p.rules.length - (intOf i).toNat)
  case atStart => exact ⟨0, Nat.zero_le _, rfl, fun j hj => absurd hj (Nat.not_lt_zero _), HBK.out, HAL.out⟩
  case round =>
    obtain ⟨k, hk, rfl, hall, hbx, hb⟩ := hrel
    have HA := Lib.hid hall
    have HX := Lib.hid hbx
    have HB := Lib.hid hb
    have kx := hbx.cell
    have hlx := hbx.lt
    by_cases hlt : k < p.rules.length
    · obtain ⟨b, off, rfl, hbl, hc⟩ := hcell (by omega)
      obtain ⟨vh, vb, vw, hcc, hsl⟩ := hc k hlt
      obtain ⟨r0, r1, r2, r3, r4, r5⟩ := hcc.below hb hbl
      obtain ⟨ah, ch, rfl, -, -, -, -⟩ := hsl.head.form
      obtain ⟨ab, cb, rfl, -, -, -, -⟩ := hsl.body.form
      obtain ⟨aw, cw, rfl, -, -, -, -⟩ := hsl.wts.form
      have HOK := Lib.hid (bodyOk_valid HV.out hlt)
      have HNG := Lib.hid (head_neg HV.out hlt)
      have HFM : Hid (allE p S D k = false → allB27 p S D = false) := Lib.hid (fun h => allR_false k hlt h)
      have HNX : Hid (allE p S D k = true → ∀ j, j < k + 1 → allE p S D j = true) := Lib.hid (fun h => lt_succ_all HA.out h)
      have HEQ : Hid (allE p S D k = (!headIn S (ixR p.rules k) || (w1B (ixR p.rules k) S || w2B (ixR p.rules k) S D || decide (p.n + 1 + (k : Int) ∈ D) || w4B (ixR p.rules k) D || w5B (ixR p.rules k) S D))) := Lib.hid rfl
      have HSL := Lib.hid hsl
      clear hc hcc hsl hall hbx hb hcell HA
      generalize ixR p.rules k = r at *
      have hb6 := bal (Below.refl wr.heap.size wr) (.cells #[.bool r.choice, .slice ah r.head.length ch, .bool r.sum, .int .i64 r.bound, .slice ab r.body.length cb, .slice aw r.w.length cw] 54)
      have hs1 : AlSt w [.int .i64 p.n, vn, vs, .slice (some ⟨b, off, none⟩) p.rules.length c1, vmn] wr.heap.size [.bool r.choice, .slice ah r.head.length ch, .bool r.sum, .int .i64 r.bound, .slice ab r.body.length cb, .slice aw r.w.length cw] r (.slice ah r.head.length ch) (.slice ab r.body.length cb) (.slice aw r.w.length cw) (.slice am S.length cm) (.slice ad D.length cd) S D (wr.alloc (.cells #[.bool r.choice, .slice ah r.head.length ch, .bool r.sum, .int .i64 r.bound, .slice ab r.body.length cb, .slice aw r.w.length cw] 54)) :=
        ⟨HX.out.below hb6, Blk.new wr [.bool r.choice, .slice ah r.head.length ch, .bool r.sum, .int .i64 r.bound, .slice ab r.body.length cb, .slice aw r.w.length cw] _, HSL.out.below (bon HB.out hb6), HM.out.below (bon HB.out hb6), HD.out.below (bon HB.out hb6), bon HB.out hb6⟩
      have HS1 := Lib.hid hs1
      have kr1 := hs1.rbx.cell
      have kp1 := hs1.pbx.cell
      have zr1 := hs1.rbx.lt
      have zp1 := hs1.pbx.lt
      clear hs1 hb6
      go_upto_region 5 with fail
      generalize wr.alloc (.cells #[.bool r.choice, .slice ah r.head.length ch, .bool r.sum, .int .i64 r.bound, .slice ab r.body.length cb, .slice aw r.w.length cw] 54) = W1 at *
      generalize wr.heap.size = rb at *
      clear r0 r1 r2 r3 r4 r5 kx HX HB HSL
      obtain ⟨bI, hbI⟩ : ∃ x, p.n + 1 + (k : Int) = x := ⟨_, rfl⟩
      rw [hbI] at HEQ
      cases hT : headIn S r with
      | false =>
        rw [hT] at HEQ
        have HT := Lib.hid hT
        have HN := Lib.hid (HNX.out (by rw [HEQ.out]; rfl))
        clear hT
        go_wp2_with (go_at_call 33; (with_reducible refine (rtou_any _ _ r S _ HS1.out.rule HS1.out.set).mono ?_); rintro e w2 ⟨e2, hb2⟩; rw [HT.out] at e2; subst e2; have HS2 := Lib.hid (HS1.out.on hb2); have kr2 := HS2.out.rbx.cell; have kp2 := HS2.out.pbx.cell; have zr2 := HS2.out.rbx.lt; have zp2 := HS2.out.pbx.lt; clear hb2)
        first
          | (go_roundw
             case rel => (exact ⟨k + 1, hlt, by go_num, HN.out, HS2.out.pbx, HS2.out.below⟩)
             case measure => (simp [intOf]; omega))
          | (refine ⟨?_, ?_⟩
             · (exact ⟨k + 1, hlt, by go_num, HN.out, HS2.out.pbx, HS2.out.below⟩)
             · (simp [intOf]; omega))
      | true =>
        rw [hT] at HEQ
        have HT := Lib.hid hT
        clear hT
        cases h1 : w1B r S with
        | true =>
          rw [h1] at HEQ
          have H1 := Lib.hid h1
          have HN := Lib.hid (HNX.out (by rw [HEQ.out]; rfl))
          clear h1
          go_wp2_with (first | (go_at_call 91; (with_reducible refine (rway1_any _ _ r S _ HS2.out.rule HS2.out.set).mono ?_); rintro e w3 ⟨e3, hb3⟩; rw [H1.out] at e3; subst e3; have HS3 := Lib.hid (HS2.out.on hb3); have kr3 := HS3.out.rbx.cell; have kp3 := HS3.out.pbx.cell; have zr3 := HS3.out.rbx.lt; have zp3 := HS3.out.pbx.lt; clear hb3) | (go_at_call 33; (with_reducible refine (rtou_any _ _ r S _ HS1.out.rule HS1.out.set).mono ?_); rintro e w2 ⟨e2, hb2⟩; rw [HT.out] at e2; subst e2; have HS2 := Lib.hid (HS1.out.on hb2); have kr2 := HS2.out.rbx.cell; have kp2 := HS2.out.pbx.cell; have zr2 := HS2.out.rbx.lt; have zp2 := HS2.out.pbx.lt; clear hb2))
          first
            | (go_roundw
               case rel => (exact ⟨k + 1, hlt, by go_num, HN.out, HS3.out.pbx, HS3.out.below⟩)
               case measure => (simp [intOf]; omega))
            | (refine ⟨?_, ?_⟩
               · (exact ⟨k + 1, hlt, by go_num, HN.out, HS3.out.pbx, HS3.out.below⟩)
               · (simp [intOf]; omega))
        | false =>
          rw [h1] at HEQ
          have H1 := Lib.hid h1
          clear h1
          cases h2 : w2B r S D with
          | true =>
            rw [h2] at HEQ
            have H2 := Lib.hid h2
            have HN := Lib.hid (HNX.out (by rw [HEQ.out]; rfl))
            clear h2
            go_wp2_with (first | (go_at_call 92; (with_reducible refine (rway2_any _ _ _ r S D _ HS3.out.rule HS3.out.set HS3.out.dd HOK.out).mono ?_); rintro e w4 ⟨e4, hb4⟩; rw [H2.out] at e4; subst e4; have HS4 := Lib.hid (HS3.out.on hb4); have kr4 := HS4.out.rbx.cell; have kp4 := HS4.out.pbx.cell; have zr4 := HS4.out.rbx.lt; have zp4 := HS4.out.pbx.lt; clear hb4) | (go_at_call 91; (with_reducible refine (rway1_any _ _ r S _ HS2.out.rule HS2.out.set).mono ?_); rintro e w3 ⟨e3, hb3⟩; rw [H1.out] at e3; subst e3; have HS3 := Lib.hid (HS2.out.on hb3); have kr3 := HS3.out.rbx.cell; have kp3 := HS3.out.pbx.cell; have zr3 := HS3.out.rbx.lt; have zp3 := HS3.out.pbx.lt; clear hb3) | (go_at_call 33; (with_reducible refine (rtou_any _ _ r S _ HS1.out.rule HS1.out.set).mono ?_); rintro e w2 ⟨e2, hb2⟩; rw [HT.out] at e2; subst e2; have HS2 := Lib.hid (HS1.out.on hb2); have kr2 := HS2.out.rbx.cell; have kp2 := HS2.out.pbx.cell; have zr2 := HS2.out.rbx.lt; have zp2 := HS2.out.pbx.lt; clear hb2))
            first
              | (go_roundw
                 case rel => (exact ⟨k + 1, hlt, by go_num, HN.out, HS4.out.pbx, HS4.out.below⟩)
                 case measure => (simp [intOf]; omega))
              | (refine ⟨?_, ?_⟩
                 · (exact ⟨k + 1, hlt, by go_num, HN.out, HS4.out.pbx, HS4.out.below⟩)
                 · (simp [intOf]; omega))
          | false =>
            rw [h2] at HEQ
            have H2 := Lib.hid h2
            clear h2
            cases h3 : decide (bI ∈ D) with
            | true =>
              rw [h3] at HEQ
              have H3 := Lib.hid h3
              have HN := Lib.hid (HNX.out (by rw [HEQ.out]; rfl))
              clear h3
              go_wp2_with (first | (go_at_call 31; (with_reducible refine (in_any _ D _ HS4.out.dd bI).mono ?_); rintro e w5 ⟨e5, rfl⟩; rw [H3.out] at e5; subst e5) | (go_at_call 92; (with_reducible refine (rway2_any _ _ _ r S D _ HS3.out.rule HS3.out.set HS3.out.dd HOK.out).mono ?_); rintro e w4 ⟨e4, hb4⟩; rw [H2.out] at e4; subst e4; have HS4 := Lib.hid (HS3.out.on hb4); have kr4 := HS4.out.rbx.cell; have kp4 := HS4.out.pbx.cell; have zr4 := HS4.out.rbx.lt; have zp4 := HS4.out.pbx.lt; clear hb4) | (go_at_call 91; (with_reducible refine (rway1_any _ _ r S _ HS2.out.rule HS2.out.set).mono ?_); rintro e w3 ⟨e3, hb3⟩; rw [H1.out] at e3; subst e3; have HS3 := Lib.hid (HS2.out.on hb3); have kr3 := HS3.out.rbx.cell; have kp3 := HS3.out.pbx.cell; have zr3 := HS3.out.rbx.lt; have zp3 := HS3.out.pbx.lt; clear hb3) | (go_at_call 33; (with_reducible refine (rtou_any _ _ r S _ HS1.out.rule HS1.out.set).mono ?_); rintro e w2 ⟨e2, hb2⟩; rw [HT.out] at e2; subst e2; have HS2 := Lib.hid (HS1.out.on hb2); have kr2 := HS2.out.rbx.cell; have kp2 := HS2.out.pbx.cell; have zr2 := HS2.out.rbx.lt; have zp2 := HS2.out.pbx.lt; clear hb2))
              first
                | (go_roundw
                   case rel => (exact ⟨k + 1, hlt, by go_num, HN.out, HS4.out.pbx, HS4.out.below⟩)
                   case measure => (simp [intOf]; omega))
                | (refine ⟨?_, ?_⟩
                   · (exact ⟨k + 1, hlt, by go_num, HN.out, HS4.out.pbx, HS4.out.below⟩)
                   · (simp [intOf]; omega))
            | false =>
              rw [h3] at HEQ
              have H3 := Lib.hid h3
              clear h3
              cases h4 : w4B r D with
              | true =>
                rw [h4] at HEQ
                have H4 := Lib.hid h4
                have HN := Lib.hid (HNX.out (by rw [HEQ.out]; rfl))
                clear h4
                go_wp2_with (first | (go_at_call 100; (with_reducible refine (rway4_any _ _ r D _ HS4.out.rule HS4.out.dd).mono ?_); rintro e w6 ⟨e6, hb6⟩; rw [H4.out] at e6; subst e6; have HS6 := Lib.hid (HS4.out.on hb6); have kr6 := HS6.out.rbx.cell; have kp6 := HS6.out.pbx.cell; have zr6 := HS6.out.rbx.lt; have zp6 := HS6.out.pbx.lt; clear hb6) | (go_at_call 31; (with_reducible refine (in_any _ D _ HS4.out.dd bI).mono ?_); rintro e w5 ⟨e5, rfl⟩; rw [H3.out] at e5; subst e5) | (go_at_call 92; (with_reducible refine (rway2_any _ _ _ r S D _ HS3.out.rule HS3.out.set HS3.out.dd HOK.out).mono ?_); rintro e w4 ⟨e4, hb4⟩; rw [H2.out] at e4; subst e4; have HS4 := Lib.hid (HS3.out.on hb4); have kr4 := HS4.out.rbx.cell; have kp4 := HS4.out.pbx.cell; have zr4 := HS4.out.rbx.lt; have zp4 := HS4.out.pbx.lt; clear hb4) | (go_at_call 91; (with_reducible refine (rway1_any _ _ r S _ HS2.out.rule HS2.out.set).mono ?_); rintro e w3 ⟨e3, hb3⟩; rw [H1.out] at e3; subst e3; have HS3 := Lib.hid (HS2.out.on hb3); have kr3 := HS3.out.rbx.cell; have kp3 := HS3.out.pbx.cell; have zr3 := HS3.out.rbx.lt; have zp3 := HS3.out.pbx.lt; clear hb3) | (go_at_call 33; (with_reducible refine (rtou_any _ _ r S _ HS1.out.rule HS1.out.set).mono ?_); rintro e w2 ⟨e2, hb2⟩; rw [HT.out] at e2; subst e2; have HS2 := Lib.hid (HS1.out.on hb2); have kr2 := HS2.out.rbx.cell; have kp2 := HS2.out.pbx.cell; have zr2 := HS2.out.rbx.lt; have zp2 := HS2.out.pbx.lt; clear hb2))
                first
                  | (go_roundw
                     case rel => (exact ⟨k + 1, hlt, by go_num, HN.out, HS6.out.pbx, HS6.out.below⟩)
                     case measure => (simp [intOf]; omega))
                  | (refine ⟨?_, ?_⟩
                     · (exact ⟨k + 1, hlt, by go_num, HN.out, HS6.out.pbx, HS6.out.below⟩)
                     · (simp [intOf]; omega))
              | false =>
                rw [h4] at HEQ
                have H4 := Lib.hid h4
                clear h4
                cases h5 : w5B r S D with
                | true =>
                  rw [h5] at HEQ
                  have H5 := Lib.hid h5
                  have HN := Lib.hid (HNX.out (by rw [HEQ.out]; rfl))
                  clear h5
                  go_wp2_with (first | (go_at_call 101; (with_reducible refine (rway5_any _ _ _ r S D _ HS6.out.rule HS6.out.set HS6.out.dd HNG.out).mono ?_); rintro e w7 ⟨e7, hb7⟩; rw [H5.out] at e7; subst e7; have HS7 := Lib.hid (HS6.out.on hb7); have kr7 := HS7.out.rbx.cell; have kp7 := HS7.out.pbx.cell; have zr7 := HS7.out.rbx.lt; have zp7 := HS7.out.pbx.lt; clear hb7) | (go_at_call 100; (with_reducible refine (rway4_any _ _ r D _ HS4.out.rule HS4.out.dd).mono ?_); rintro e w6 ⟨e6, hb6⟩; rw [H4.out] at e6; subst e6; have HS6 := Lib.hid (HS4.out.on hb6); have kr6 := HS6.out.rbx.cell; have kp6 := HS6.out.pbx.cell; have zr6 := HS6.out.rbx.lt; have zp6 := HS6.out.pbx.lt; clear hb6) | (go_at_call 31; (with_reducible refine (in_any _ D _ HS4.out.dd bI).mono ?_); rintro e w5 ⟨e5, rfl⟩; rw [H3.out] at e5; subst e5) | (go_at_call 92; (with_reducible refine (rway2_any _ _ _ r S D _ HS3.out.rule HS3.out.set HS3.out.dd HOK.out).mono ?_); rintro e w4 ⟨e4, hb4⟩; rw [H2.out] at e4; subst e4; have HS4 := Lib.hid (HS3.out.on hb4); have kr4 := HS4.out.rbx.cell; have kp4 := HS4.out.pbx.cell; have zr4 := HS4.out.rbx.lt; have zp4 := HS4.out.pbx.lt; clear hb4) | (go_at_call 91; (with_reducible refine (rway1_any _ _ r S _ HS2.out.rule HS2.out.set).mono ?_); rintro e w3 ⟨e3, hb3⟩; rw [H1.out] at e3; subst e3; have HS3 := Lib.hid (HS2.out.on hb3); have kr3 := HS3.out.rbx.cell; have kp3 := HS3.out.pbx.cell; have zr3 := HS3.out.rbx.lt; have zp3 := HS3.out.pbx.lt; clear hb3) | (go_at_call 33; (with_reducible refine (rtou_any _ _ r S _ HS1.out.rule HS1.out.set).mono ?_); rintro e w2 ⟨e2, hb2⟩; rw [HT.out] at e2; subst e2; have HS2 := Lib.hid (HS1.out.on hb2); have kr2 := HS2.out.rbx.cell; have kp2 := HS2.out.pbx.cell; have zr2 := HS2.out.rbx.lt; have zp2 := HS2.out.pbx.lt; clear hb2))
                  first
                    | (go_roundw
                       case rel => (exact ⟨k + 1, hlt, by go_num, HN.out, HS7.out.pbx, HS7.out.below⟩)
                       case measure => (simp [intOf]; omega))
                    | (refine ⟨?_, ?_⟩
                       · (exact ⟨k + 1, hlt, by go_num, HN.out, HS7.out.pbx, HS7.out.below⟩)
                       · (simp [intOf]; omega))
                | false =>
                  rw [h5] at HEQ
                  have H5 := Lib.hid h5
                  have HN := Lib.hid (HFM.out (by rw [HEQ.out]; rfl))
                  clear h5
                  go_wp2_with (first | (go_at_call 101; (with_reducible refine (rway5_any _ _ _ r S D _ HS6.out.rule HS6.out.set HS6.out.dd HNG.out).mono ?_); rintro e w7 ⟨e7, hb7⟩; rw [H5.out] at e7; subst e7; have HS7 := Lib.hid (HS6.out.on hb7); have kr7 := HS7.out.rbx.cell; have kp7 := HS7.out.pbx.cell; have zr7 := HS7.out.rbx.lt; have zp7 := HS7.out.pbx.lt; clear hb7) | (go_at_call 100; (with_reducible refine (rway4_any _ _ r D _ HS4.out.rule HS4.out.dd).mono ?_); rintro e w6 ⟨e6, hb6⟩; rw [H4.out] at e6; subst e6; have HS6 := Lib.hid (HS4.out.on hb6); have kr6 := HS6.out.rbx.cell; have kp6 := HS6.out.pbx.cell; have zr6 := HS6.out.rbx.lt; have zp6 := HS6.out.pbx.lt; clear hb6) | (go_at_call 31; (with_reducible refine (in_any _ D _ HS4.out.dd bI).mono ?_); rintro e w5 ⟨e5, rfl⟩; rw [H3.out] at e5; subst e5) | (go_at_call 92; (with_reducible refine (rway2_any _ _ _ r S D _ HS3.out.rule HS3.out.set HS3.out.dd HOK.out).mono ?_); rintro e w4 ⟨e4, hb4⟩; rw [H2.out] at e4; subst e4; have HS4 := Lib.hid (HS3.out.on hb4); have kr4 := HS4.out.rbx.cell; have kp4 := HS4.out.pbx.cell; have zr4 := HS4.out.rbx.lt; have zp4 := HS4.out.pbx.lt; clear hb4) | (go_at_call 91; (with_reducible refine (rway1_any _ _ r S _ HS2.out.rule HS2.out.set).mono ?_); rintro e w3 ⟨e3, hb3⟩; rw [H1.out] at e3; subst e3; have HS3 := Lib.hid (HS2.out.on hb3); have kr3 := HS3.out.rbx.cell; have kp3 := HS3.out.pbx.cell; have zr3 := HS3.out.rbx.lt; have zp3 := HS3.out.pbx.lt; clear hb3) | (go_at_call 33; (with_reducible refine (rtou_any _ _ r S _ HS1.out.rule HS1.out.set).mono ?_); rintro e w2 ⟨e2, hb2⟩; rw [HT.out] at e2; subst e2; have HS2 := Lib.hid (HS1.out.on hb2); have kr2 := HS2.out.rbx.cell; have kp2 := HS2.out.pbx.cell; have zr2 := HS2.out.rbx.lt; have zp2 := HS2.out.pbx.lt; clear hb2))
                  go_ret
                  exact ⟨ret_bool HN.out.symm, HS7.out.below⟩
    · have HN : Hid (allB27 p S D = true) := Lib.hid (allR_true fun j hj => HA.out j (by omega))
      go_wp2
      go_ret
      exact ⟨ret_bool HN.out.symm, HB.out⟩

end Go.Proofs.YtfhpfbakoiekpaaGreatDoor

/- The reference's loops are the program's: plain law. -/
namespace Go.Proofs.YtfhpfbakoiekpaaGreatDoor

theorem any_ix (l : List Int) (f : Int → Bool) : anyR l.length (fun j => f (ix l j)) = l.any f := by
  rw [Bool.eq_iff_iff]
  constructor
  · intro h
    unfold anyR at h
    obtain ⟨j, hj, hf⟩ := List.any_eq_true.1 h
    exact List.any_eq_true.2 ⟨_, ix_mem (List.mem_range.1 hj), hf⟩
  · intro h
    obtain ⟨x, hx, hf⟩ := List.any_eq_true.1 h
    obtain ⟨j, hj, rfl⟩ := mem_ix.1 hx
    exact anyR_true j hj hf

theorem any_same {l : List Int} {f g : Int → Bool} (h : ∀ x ∈ l, f x = g x) : l.any f = l.any g := by
  rw [Bool.eq_iff_iff]
  simp only [List.any_eq_true]
  exact ⟨fun ⟨x, hx, hf⟩ => ⟨x, hx, by rw [← h x hx]; exact hf⟩, fun ⟨x, hx, hf⟩ => ⟨x, hx, by rw [h x hx]; exact hf⟩⟩

/-- The support is excluded by what g says to be false. -/
def excR (g : Int → Bool) (u : SU) : Bool :=
  impB u || g u.b || (!u.r.sum && u.r.body.any g) || (oth u).any (fun h => g (-h)) || (u.r.sum && decide (wgt u (fun l => !g l) u.r.body.length < u.r.bound))
theorem exc_is (u : SU) (a : List Int) : exc u a = excR (offB a) u := by
  unfold exc excR ex2 ex3 ex4
  rw [any_ix, any_ix (oth u) (fun h => offB a (-h))]
theorem excV_is (u : SU) (L : List Int) : excV u L = excR (fun l => decide (l ∈ L)) u := by
  unfold excV excR ex2V ex3V ex4V inB
  rw [any_ix u.r.body (fun l => decide (l ∈ L)), any_ix (oth u) (fun h => decide (-h ∈ L))]

theorem wgt_full {u : SU} (h : BodyOk u.r) (hs : u.r.sum = true) (g : Int → Bool) : ∀ k, k ≤ u.r.body.length → wgt u g k ≤ wgt u (fun _ => true) k
  | 0, _ => by simp [wgt]
  | k + 1, hk => by
    have ih := wgt_full h hs g k (by omega)
    have hw := h.w hs k (by have := h.wlen hs; omega)
    unfold wgt
    cases intB u.S (ix u.r.body k) <;> cases g (ix u.r.body k) <;> simp <;> omega

theorem w2S_wgt {u : SU} {D : List Int} {g : Int → Bool} (hg : ∀ x ∈ u.r.body, decide (x ∈ D) = g x) : ∀ k, k ≤ u.r.body.length → w2S u.r u.S D k = wgt u (fun l => !g l) k
  | 0, _ => rfl
  | k + 1, hk => by
    unfold w2S wgt
    rw [w2S_wgt hg k (by omega), hg _ (ix_mem (show k < u.r.body.length by omega))]

theorem oth_any (u : SU) (f : Int → Bool) : (oth u).any f = (!u.r.choice && u.r.head.any (fun h => !decide (h ∈ u.S) && f h)) := by
  unfold oth
  split
  · rename_i h; rw [h]; rfl
  · rename_i h
    rw [Bool.eq_false_iff.2 h]
    unfold keepF
    rw [List.take_length, List.any_filter]
    rfl

/-- The ways of the reference. -/
theorem ways_is {p : GP} {S D : List Int} {g : Int → Bool} {i : Nat} {u : SU} (hr : u.r = ixR p.rules i) (hS : u.S = S) (hb : u.b = p.n + 1 + i) (hok : BodyOk u.r)
    (h1 : ∀ x ∈ u.r.body, decide (x ∈ D) = g x) (h2 : decide (u.b ∈ D) = g u.b) (h3 : ∀ x ∈ u.r.head, decide (-x ∈ D) = g (-x)) : ways p S D i = excR g u := by
  unfold ways excR
  rw [← hr, ← hb, ← hS, h2, oth_any]
  have e5 : w5B u.r u.S D = (!u.r.choice && u.r.head.any (fun h => !decide (h ∈ u.S) && g (-h))) := by
    unfold w5B
    rw [any_ix u.r.head (fun h => !decide (h ∈ u.S) && decide (-h ∈ D)), any_same (g := fun h => !decide (h ∈ u.S) && g (-h)) (fun x hx => by rw [h3 x hx])]
  have e4 : w4B u.r D = (!u.r.sum && u.r.body.any g) := by
    unfold w4B
    rw [any_ix u.r.body (fun l => decide (l ∈ D)), any_same h1]
  rw [e5, e4]
  unfold w1B w2B impB
  rw [w2S_wgt h1 _ (Nat.le_refl _)]
  cases hs : u.r.sum with
  | false => simp only [Bool.not_false, Bool.true_and, Bool.false_and, Bool.or_false, Bool.false_eq_true, if_false]
  | true =>
    have hm := wgt_full hok hs (fun l => !g l) u.r.body.length (Nat.le_refl _)
    simp only [Bool.not_true, Bool.true_and, Bool.false_and, Bool.or_false, Bool.false_or, if_true]
    by_cases c1 : wgt u (fun _ => true) u.r.body.length < u.r.bound
    · rw [decide_eq_true c1, decide_eq_true (show wgt u (fun l => !g l) u.r.body.length < u.r.bound by omega)]
      simp
    · rw [decide_eq_false c1, Bool.false_or]
      cases decide (wgt u (fun l => !g l) u.r.body.length < u.r.bound) <;> cases g u.b <;> simp

theorem supsTo_all (p : GP) (S : List Int) (f : SU → Bool) : ∀ k, (supsTo p S k).all f = allR k (fun i => !headIn S (ixR p.rules i) || f (supAt p S i))
  | 0 => rfl
  | k + 1 => by
    have e : supsTo p S (k + 1) = if headIn S (ixR p.rules k) then supsTo p S k ++ [supAt p S k] else supsTo p S k := rfl
    rw [allR_succ, ← supsTo_all p S f k, e]
    split
    · rename_i h; rw [h, List.all_append]; simp
    · rename_i h; rw [Bool.eq_false_iff.2 h]; simp

theorem supAt_b {p : GP} (hv : validE p = 0) (S : List Int) {i : Nat} (hi : i < p.rules.length) : (supAt p S i).b = p.n + 1 + i := by
  show bodyI p i = _
  unfold bodyI
  rw [if_neg (by omega)]

/-- What All says of a list whose members g knows. -/
theorem all27_is {p : GP} {S D : List Int} {g : Int → Bool} (hv : validE p = 0) (hg : ∀ l : Int, l ≠ 0 → (l.natAbs : Int) ≤ p.n + p.rules.length → decide (l ∈ D) = g l) : allB27 p S D = (supsTo p S p.rules.length).all (excR g) := by
  rw [supsTo_all]
  unfold allB27
  have hn := (validP hv).n
  rw [Bool.eq_iff_iff]
  have key : ∀ i, i < p.rules.length → allE p S D i = (!headIn S (ixR p.rules i) || excR g (supAt p S i)) := fun i hi => by
    unfold allE
    have h1 : ∀ x ∈ (supAt p S i).r.body, decide (x ∈ D) = g x := fun x hx => by
      have := ordered_lit ((validP hv).body i hi) hx
      exact hg x this.1 (by omega)
    have h2 : decide ((supAt p S i).b ∈ D) = g (supAt p S i).b := by
      rw [supAt_b hv S hi]
      exact hg _ (by omega) (by omega)
    have h3 : ∀ x ∈ (supAt p S i).r.head, decide (-x ∈ D) = g (-x) := fun x hx => by
      have := inc_mem ((validP hv).head i hi) hx
      exact hg _ (by omega) (by omega)
    rw [ways_is (S := S) (D := D) (g := g) (u := supAt p S i) rfl rfl (supAt_b hv S hi) (bodyOk_valid hv hi) h1 h2 h3]
  constructor
  · intro h
    exact allR_true fun i hi => by rw [← key i hi]; exact allR_get h i hi
  · intro h
    exact allR_true fun i hi => by rw [key i hi]; exact allR_get h i hi

def unfR (p : GP) (a S : List Int) : Bool := decide (validE p = 0) && setB' p.n S && allB27 p S (falL p a)
theorem fal_off {p : GP} (a : List Int) (_hn : 0 ≤ p.n) (l : Int) (h0 : l ≠ 0) (h1 : (l.natAbs : Int) ≤ p.n + p.rules.length) : decide (l ∈ falL p a) = offB a l := falTo_off h0 (by omega)

theorem unfR_is (p : GP) (a S : List Int) : unfR p a S = unfB p a S := by
  unfold unfR unfB
  by_cases hv : validE p = 0
  · rw [decide_eq_true hv, Bool.true_and, Bool.true_and, all27_is hv (fal_off a (validP hv).n.1)]
    unfold allExc
    congr 2
    funext u
    exact (exc_is u a).symm
  · rw [decide_eq_false hv]; rfl

def validR (p : GP) (S : List Int) (c : PBC) : Bool := decide (validE p = 0) && (setB' p.n S && (pbV c && (decide (c.bound = 1) && (anyR S.length (fun j => decide (-(ix S j) ∈ c.lits)) && allB27 p S c.lits))))
theorem validR_is (p : GP) (S : List Int) (c : PBC) : validR p S c = validC p S c := by
  unfold validR validC
  by_cases hv : validE p = 0
  · rw [all27_is (g := fun l => decide (l ∈ c.lits)) hv (fun _ _ _ => rfl)]
    unfold allExcV
    have : (fun u => excV u c.lits) = excR (fun l => decide (l ∈ c.lits)) := funext fun u => excV_is u c.lits
    rw [this]
    rfl
  · rw [decide_eq_false hv]; rfl

/-! ### Make -/
def rs3 (r : GR) (S D : List Int) : List Int :=
  match (if r.choice then none else r.head.find? (fun h => !decide (h ∈ S) && decide (-h ∈ D))) with
  | some h => [-h]
  | none => r.body.filter (fun l => !intB S l && decide (l ∈ D))
def rs2 (r : GR) (S D : List Int) : List Int :=
  match (if r.sum then none else r.body.find? (fun l => decide (l ∈ D))) with
  | some l => [l]
  | none => rs3 r S D
def rsR (p : GP) (i : Nat) (S D : List Int) : List Int :=
  if (w1B (ixR p.rules i) S || w2B (ixR p.rules i) S []) = true then [] else if p.n + 1 + (i : Int) ∈ D then [p.n + 1 + (i : Int)] else rs2 (ixR p.rules i) S D
def rsTo (p : GP) (S D : List Int) : Nat → List Int
  | 0 => []
  | k + 1 => rsTo p S D k ++ (if headIn S (ixR p.rules k) then rsR p k S D else [])
def makeR (p : GP) (a S : List Int) (u : Int) : PBC × Int :=
  if (unfR p a S && decide (u ∈ S)) = true then refClause ([-u] ++ rsTo p S (falL p a) p.rules.length) else (⟨[], [], 0⟩, 2)

theorem find_same {l : List Int} {f g : Int → Bool} (h : ∀ x ∈ l, f x = g x) : l.find? f = l.find? g := by
  induction l with
  | nil => rfl
  | cons x l ih =>
    rw [List.find?_cons, List.find?_cons, h x (by simp), ih fun y hy => h y (by simp [hy])]
theorem filter_same {l : List Int} {f g : Int → Bool} (h : ∀ x ∈ l, f x = g x) : l.filter f = l.filter g := List.filter_congr h

theorem imp_is {u : SU} (_hok : BodyOk u.r) : (w1B u.r u.S || w2B u.r u.S []) = impB u := by
  unfold w1B w2B impB
  rw [w2S_wgt (g := fun _ => false) (fun x _ => by simp) _ (Nat.le_refl _)]
  cases u.r.sum <;> simp

theorem oth_find (u : SU) (f : Int → Bool) : (oth u).find? f = if u.r.choice then none else u.r.head.find? (fun h => !decide (h ∈ u.S) && f h) := by
  unfold oth
  split
  · rfl
  · unfold keepF
    rw [List.take_length, List.find?_filter]
    exact find_same fun x _ => by simp [Bool.decide_and]

theorem rsR_is {p : GP} {S D : List Int} {a : List Int} (hv : validE p = 0) (hg : ∀ l : Int, l ≠ 0 → (l.natAbs : Int) ≤ p.n + p.rules.length → decide (l ∈ D) = offB a l) {i : Nat} (hi : i < p.rules.length) : rsR p i S D = reasP (supAt p S i) a := by
  have hn := (validP hv).n
  have h1 : ∀ x ∈ (ixR p.rules i).body, decide (x ∈ D) = offB a x := fun x hx => by
    have := ordered_lit ((validP hv).body i hi) hx
    exact hg x this.1 (by omega)
  have h3 : ∀ x ∈ (ixR p.rules i).head, decide (-x ∈ D) = offB a (-x) := fun x hx => by
    have := inc_mem ((validP hv).head i hi) hx
    exact hg _ (by omega) (by omega)
  have hb := supAt_b hv S hi
  have h2 : decide (p.n + 1 + (i : Int) ∈ D) = offB a (p.n + 1 + (i : Int)) := hg _ (by omega) (by omega)
  unfold rsR reasP
  rw [show (w1B (ixR p.rules i) S || w2B (ixR p.rules i) S []) = impB (supAt p S i) from imp_is (u := supAt p S i) (bodyOk_valid hv hi), hb, ← h2]
  split
  · rfl
  · by_cases hd : p.n + 1 + (i : Int) ∈ D
    · rw [if_pos hd, decide_eq_true hd, if_pos rfl]
    · rw [if_neg hd, decide_eq_false hd, if_neg (by simp)]
      have e3 : rs3 (ixR p.rules i) S D = reas2 (supAt p S i) a := by
        unfold rs3 reas2
        rw [oth_find]
        have e : (ixR p.rules i).head.find? (fun h => !decide (h ∈ S) && decide (-h ∈ D)) = (supAt p S i).r.head.find? (fun h => !decide (h ∈ (supAt p S i).S) && offB a (-h)) := find_same fun x hx => by rw [h3 x hx]; rfl
        rw [e]
        have ef : (ixR p.rules i).body.filter (fun l => !intB S l && decide (l ∈ D)) = (supAt p S i).r.body.filter (fun l => !(intB (supAt p S i).S l || !offB a l)) := filter_same fun x hx => by
          rw [h1 x hx]
          show _ = !(intB S x || !offB a x)
          cases intB S x <;> cases offB a x <;> rfl
        rw [ef]
        rfl
      unfold rs2 reas1
      rw [e3, find_same h1]
      show (match (if (ixR p.rules i).sum then none else _) with | some l => [l] | none => _) = if (ixR p.rules i).sum then _ else match (ixR p.rules i).body.find? _ with | some l => [l] | none => _
      cases (ixR p.rules i).sum <;> rfl

theorem rsTo_is {p : GP} {S D : List Int} {a : List Int} (hv : validE p = 0) (hg : ∀ l : Int, l ≠ 0 → (l.natAbs : Int) ≤ p.n + p.rules.length → decide (l ∈ D) = offB a l) : ∀ k, k ≤ p.rules.length → rsTo p S D k = reasAll a (supsTo p S k)
  | 0, _ => rfl
  | k + 1, hk => by
    unfold rsTo supsTo
    rw [rsTo_is hv hg k (by omega)]
    cases headIn S (ixR p.rules k) with
    | true => rw [if_pos rfl, if_pos rfl, reasAll_snoc, rsR_is hv hg (by omega)]
    | false => rw [if_neg (by simp), if_neg (by simp), List.append_nil]

theorem rsR_mem {p : GP} {S D : List Int} {i : Nat} {x : Int} (h : x ∈ rsR p i S D) : x = p.n + 1 + i ∨ x ∈ (ixR p.rules i).body ∨ -x ∈ (ixR p.rules i).head := by
  unfold rsR at h
  split at h
  · cases h
  · split at h
    · exact .inl (by simpa using h)
    · unfold rs2 at h
      split at h
      · rename_i l hl
        split at hl
        · cases hl
        · obtain rfl : x = l := by simpa using h
          exact .inr (.inl (List.mem_of_find?_eq_some hl))
      · unfold rs3 at h
        split at h
        · rename_i y hy
          split at hy
          · cases hy
          · obtain rfl : x = -y := by simpa using h
            exact .inr (.inr (by rw [Int.neg_neg]; exact List.mem_of_find?_eq_some hy))
        · exact .inr (.inl (List.mem_filter.1 h).1)

theorem rsTo_mem {p : GP} {S D : List Int} {x : Int} : ∀ k, x ∈ rsTo p S D k → ∃ i, i < k ∧ x ∈ rsR p i S D
  | 0, h => by simp [rsTo] at h
  | k + 1, h => by
    unfold rsTo at h
    rcases List.mem_append.1 h with h | h
    · obtain ⟨i, hi, h⟩ := rsTo_mem k h
      exact ⟨i, by omega, h⟩
    · split at h
      · exact ⟨k, by omega, h⟩
      · cases h

theorem rsTo_plit {p : GP} {S D : List Int} (hv : validE p = 0) {x : Int} (h : x ∈ rsTo p S D p.rules.length) : x ≠ 0 ∧ -65536 ≤ x ∧ x ≤ 65536 := by
  obtain ⟨i, hi, h⟩ := rsTo_mem _ h
  have hn := (validP hv).n
  have hr := (validP hv).rules
  rcases rsR_mem h with rfl | h | h
  · omega
  · have := ordered_lit ((validP hv).body i hi) h; omega
  · have := inc_mem ((validP hv).head i hi) h; omega

theorem setB_mem {n : Int} {S : List Int} (h : setB' n S = true) {u : Int} (hu : u ∈ S) : 1 ≤ u ∧ u ≤ n := by
  unfold setB' at h
  rw [Bool.and_eq_true] at h
  obtain ⟨j, hj, rfl⟩ := mem_ix.1 hu
  have := allR_get h.1 j hj
  unfold setTo at this
  rw [Bool.and_eq_true, decide_eq_true_eq] at this
  exact this.1

theorem makeR_is (p : GP) (a S : List Int) (u : Int) : makeR p a S u = makeP p a S u := by
  unfold makeR makeP
  rw [unfR_is]
  split
  · rename_i h
    rw [Bool.and_eq_true] at h
    have hu := h.1
    unfold unfB at hu
    rw [Bool.and_eq_true, Bool.and_eq_true, decide_eq_true_eq] at hu
    obtain ⟨hv, hs, -⟩ := hu
    have hm := setB_mem hs (of_decide_eq_true h.2)
    have hn := (validP hv).n
    rw [refClause_is fun y hy => ?_, rsTo_is hv (fal_off a hn.1) _ (Nat.le_refl _)]
    refine decide_eq_true ?_
    rcases List.mem_append.1 hy with hy | hy
    · obtain rfl : y = -u := by simpa using hy
      omega
    · exact rsTo_plit hv hy
  · rfl

end Go.Proofs.YtfhpfbakoiekpaaGreatDoor

/- ostlerref24.Valid: its contract. -/
namespace Go.Proofs.YtfhpfbakoiekpaaGreatDoor
open Go.RowKit

/-- The parts of a constraint, so far. -/
def pz (c : PBC) (k : Nat) : List (Int × Int) := (c.lits.zip c.coefs).take k
theorem pz_next {c : PBC} {k : Nat} (h : k < c.lits.length) (he : c.lits.length = c.coefs.length) : pz c (k + 1) = pz c k ++ [(ix c.lits k, ix c.coefs k)] := by
  unfold pz
  rw [List.take_add_one, List.getElem?_eq_getElem (by rw [List.length_zip]; omega), List.getElem_zip]
  rw [ix_get h, ix_get (show k < c.coefs.length by omega)]
  rfl
theorem pz_all {c : PBC} (he : c.lits.length = c.coefs.length) : pz c c.lits.length = c.lits.zip c.coefs := by
  unfold pz
  rw [List.take_of_length_le]
  rw [List.length_zip]; omega
theorem pz_len {c : PBC} {k : Nat} (h : k ≤ c.lits.length) (he : c.lits.length = c.coefs.length) : (pz c k).length = k := by
  unfold pz
  rw [List.length_take, List.length_zip]; omega
theorem pz_last {c : PBC} {k : Nat} (h : k < c.lits.length) (he : c.lits.length = c.coefs.length) : lastF 0 (pz c (k + 1)) = ((ix c.lits k).natAbs : Int) := by
  rw [pz_next h he, lastF_snoc]
/-- A fault at k. -/
theorem pbV_fault {c : PBC} {k : Nat} (h : k < c.lits.length) (he : c.lits.length = c.coefs.length) (hc : chkB c.bound (lastF 0 (pz c k)) (ix c.lits k, ix c.coefs k) = false) : pbV c = false := by
  have h1 : okF c.bound 0 (pz c (k + 1)) = false := by rw [pz_next h he, okF_snoc, hc, Bool.and_false]
  have h2 : okF c.bound 0 (c.lits.zip c.coefs) = false := by
    have := okF_false (pz c (k + 1)) ((c.lits.zip c.coefs).drop (k + 1)) 0 h1
    rwa [show pz c (k + 1) ++ (c.lits.zip c.coefs).drop (k + 1) = c.lits.zip c.coefs from List.take_append_drop _ _] at this
  unfold pbV
  rw [h2]
  simp

def RvRel (c : PBC) (cs : List Value) (w : World) (s i : Value) (wx : World) : Prop :=
  ∃ k : Nat, k ≤ c.lits.length ∧ i = .int .i64 k ∧ s = .int .i64 (sumP (pz c k)) ∧ okF c.bound 0 (pz c k) = true ∧ Blk wx w.heap.size cs 30 ∧ Below w.heap.size w wx

set_option maxHeartbeats 8000000 in
set_option maxRecDepth 100000 in
theorem rvalid24_any (v : Value) (c : PBC) (w : World) (h : PBIs w v c) :
    Calls Tryz.prog 47 #[v] w fun e w' => e = .returned (.bool (pbV c)) ∧ Below w.heap.size w w' := by
  obtain ⟨vl, vk, rfl, hvl, hvk, hbd⟩ := h
  unfold InI at hbd
  obtain ⟨a1, c1, rfl, -, hl1, -, hc1⟩ := hvl.form
  obtain ⟨a2, c2, rfl, -, hl2, -, hc2⟩ := hvk.form
  have F1 := Lib.hid hvl.2
  have F2 := Lib.hid hvk.2
  have hal := bal (Below.refl w.heap.size w) (.cells #[.slice a1 c.lits.length c1, .slice a2 c.coefs.length c2, .int .i64 c.bound] 30)
  have HAL := Lib.hid hal
  have HBK := Lib.hid (Blk.new w [.slice a1 c.lits.length c1, .slice a2 c.coefs.length c2, .int .i64 c.bound] 30)
  have kx0 := HBK.out.cell
  have HC1 := Lib.hid hc1
  have HC2 := Lib.hid hc2
  have HPV : Hid (pbV c = (decide (c.lits.length = c.coefs.length) && decide (0 ≤ c.bound ∧ c.bound ≤ 16777216) && okF c.bound 0 (c.lits.zip c.coefs) && (decide (c.bound ≤ sumP (c.lits.zip c.coefs)) || (decide (c.lits.length = 0) && decide (c.bound = 1))))) := Lib.hid rfl
  clear hvl hvk hc1 hc2 hal
  by_cases he : c.lits.length = c.coefs.length
  case neg =>
    have hne : ((c.lits.length : Int) != (c.coefs.length : Int)) = true := by simp; omega
    have HN : Hid (pbV c = false) := Lib.hid (by rw [HPV.out, decide_eq_false he]; rfl)
    go_enter Tryz.func47, Tryz.ntmps47
    go_wp2
    go_ret
    exact ⟨ret_bool HN.out.symm, HAL.out⟩
  have hne : ((c.lits.length : Int) != (c.coefs.length : Int)) = false := by simp [he]
  by_cases hr : 0 ≤ c.bound ∧ c.bound ≤ 16777216
  case neg =>
    have HN : Hid (pbV c = false) := Lib.hid (by rw [HPV.out, decide_eq_false hr]; simp)
    clear he
    by_cases h0 : c.bound < 0
    · go_enter Tryz.func47, Tryz.ntmps47
      go_wp2
      go_ret
      exact ⟨ret_bool HN.out.symm, HAL.out⟩
    · have h1 : 16777216 < c.bound := by omega
      go_enter Tryz.func47, Tryz.ntmps47
      go_wp2
      go_ret
      exact ⟨ret_bool HN.out.symm, HAL.out⟩
  have HE := Lib.hid he
  have hb0 : ¬ c.bound < 0 := by omega
  have hb1 : ¬ 16777216 < c.bound := by omega
  rw [decide_eq_true he, decide_eq_true hr, Bool.true_and, Bool.true_and] at HPV
  clear he
  go_enter Tryz.func47, Tryz.ntmps47
  go_upto_region 5 with fail
  generalize w.alloc (.cells #[.slice a1 c.lits.length c1, .slice a2 c.coefs.length c2, .int .i64 c.bound] 30) = W0 at *
  clear kx0
  go_loopw [3, 4] (fun s i wx => RvRel c [.slice a1 c.lits.length c1, .slice a2 c.coefs.length c2, .int .i64 c.bound] w s i wx) (fun _ i _ => c.lits.length - (intOf i).toNat)
  case atStart => exact ⟨0, Nat.zero_le _, rfl, rfl, rfl, HBK.out, HAL.out⟩
  case round =>
    obtain ⟨k, hk, rfl, rfl, hok, hbx, hb⟩ := hrel
    have kx := hbx.cell
    have hlx := hbx.lt
    have HX := Lib.hid hbx
    have HB := Lib.hid hb
    have HOK := Lib.hid hok
    obtain ⟨hs1, hs2, hs3, -⟩ := okF_bound (pz c k) 0 (Int.le_refl _) hok
    rw [pz_len hk HE.out] at hs1 hs3
    have hk6 : k ≤ 65536 := by
      cases k with
      | zero => omega
      | succ j =>
        have hj : j < c.lits.length := by omega
        rw [pz_last hj HE.out] at hs1
        have h1 := hok
        rw [pz_next hj HE.out, okF_snoc, Bool.and_eq_true] at h1
        have h2 := h1.2
        unfold chkB plitB at h2
        simp only [Bool.and_eq_true, decide_eq_true_eq] at h2
        omega
    have hs4 : sumP (pz c k) ≤ 16777216 * 65536 := by
      refine Int.le_trans hs3 (Int.mul_le_mul hr.2 (by omega) (by omega) (by omega))
    clear hs1 hs3
    by_cases hlt : k < c.lits.length
    · have hlt2 : k < c.coefs.length := by have := HE.out; omega
      obtain ⟨b1, o1, rfl, hbl1, hcc1⟩ := HC1.out (by omega)
      obtain ⟨b2, o2, rfl, hbl2, hcc2⟩ := HC2.out (by omega)
      have hz1 : b1 < wr.heap.size := Nat.lt_of_lt_of_le hbl1 hb.size
      have hz2 : b2 < wr.heap.size := Nat.lt_of_lt_of_le hbl2 hb.size
      have q0 : ∀ e : Ext wr, ∀ o, e.world.cell? ⟨w.heap.size, o, none⟩ = _ := fun e o => (bcell e.below _ o hlx).trans (hbx.cell o)
      have q1 : ∀ e : Ext wr, e.world.cell? ⟨b1, o1 + k, none⟩ = some (.int .i64 (ix c.lits k)) := fun e => (bcell e.below _ _ hz1).trans ((bcell hb _ _ hbl1).trans (hcc1 k hlt))
      have q2 : ∀ e : Ext wr, e.world.cell? ⟨b2, o2 + k, none⟩ = some (.int .i64 (ix c.coefs k)) := fun e => (bcell e.below _ _ hz2).trans ((bcell hb _ _ hbl2).trans (hcc2 k hlt2))
      have HSM : Hid (sumP (pz c (k + 1)) = sumP (pz c k) + ix c.coefs k) := Lib.hid (by rw [pz_next hlt HE.out, sumP_snoc])
      have HCK : Hid (chkB c.bound (lastF 0 (pz c k)) (ix c.lits k, ix c.coefs k) = (plitB (ix c.lits k) && decide (lastF 0 (pz c k) < ((ix c.lits k).natAbs : Int)) && decide (1 ≤ ix c.coefs k) && decide (ix c.coefs k ≤ c.bound))) := Lib.hid rfl
      have HFA : Hid (chkB c.bound (lastF 0 (pz c k)) (ix c.lits k, ix c.coefs k) = false → pbV c = false) := Lib.hid (pbV_fault hlt HE.out)
      have HGO : Hid (chkB c.bound (lastF 0 (pz c k)) (ix c.lits k, ix c.coefs k) = true → okF c.bound 0 (pz c (k + 1)) = true) := Lib.hid (fun h => by rw [pz_next hlt HE.out, okF_snoc, hok, h]; rfl)
      have fk1 := F1.out k
      have fk2 := F2.out k
      cases hp : plitB (ix c.lits k) with
      | false =>
        have HN := Lib.hid (HFA.out (by rw [HCK.out, hp]; rfl))
        have HLI : Hid (∀ w, Calls Tryz.prog 103 #[.int .i64 (ix c.lits k)] w fun e w' => e = .returned (.bool false) ∧ w = w') := Lib.hid (fun w => by rw [← hp]; exact rlit_any _ w fk1)
        have HV1 := HLI
        have HV2 := HLI
        clear hp hok hbx hb hcc1 hcc2 HFA HGO fk1 fk2
        go_wp2
        refine wp_region_ext (by kernel_rfl) (by kernel_rfl) ?_
        repeat (go_big_quiet_step ((first | (go_at_call 103; exact Calls.ext_of_same (HLI.out _)) | (go_at_call 104; first | with_reducible exact Calls.ext_of_same (HV1.out _) | with_reducible exact Calls.ext_of_same (HV2.out _)))))
        refine wpQuiet_nil ?_
        intro w9 hw'
        obtain ⟨e9, he9⟩ := hw'
        have hb9 := e9.below
        rw [← he9] at hb9
        clear he9 e9
        try dsimp only
        go_wp2
        go_ret
        exact ⟨ret_bool HN.out.symm, bon HB.out hb9⟩
      | true =>
        have HLI : Hid (∀ w, Calls Tryz.prog 103 #[.int .i64 (ix c.lits k)] w fun e w' => e = .returned (.bool true) ∧ w = w') := Lib.hid (fun w => by rw [← hp]; exact rlit_any _ w fk1)
        have HPL := Lib.hid hp
        have hp1 : ix c.lits k ≠ 0 ∧ -65536 ≤ ix c.lits k ∧ ix c.lits k ≤ 65536 := by unfold plitB at hp; exact of_decide_eq_true hp
        unfold InI at fk2
        have HV1 : Hid (∀ w, Calls Tryz.prog 104 #[.int .i64 (ix c.lits k)] w fun e w' => e = .returned (.int .i64 ((ix c.lits k).natAbs : Int)) ∧ w = w') := Lib.hid (fun w => rvar_any _ w (by omega))
        by_cases c1 : ix c.coefs k < 1
        · have d1 : decide (ix c.coefs k < 1) = true := decide_eq_true c1
          have HN := Lib.hid (HFA.out (by rw [HCK.out, show decide (1 ≤ ix c.coefs k) = false from decide_eq_false (by omega)]; simp))
          have HV2 := HV1
          clear hp hok hbx hb hcc1 hcc2 HFA HGO fk1
          go_wp2
          refine wp_region_ext (by kernel_rfl) (by kernel_rfl) ?_
          repeat (go_big_quiet_step ((first | (go_at_call 103; exact Calls.ext_of_same (HLI.out _)) | (go_at_call 104; first | with_reducible exact Calls.ext_of_same (HV1.out _) | with_reducible exact Calls.ext_of_same (HV2.out _)))))
          refine wpQuiet_nil ?_
          intro w9 hw'
          obtain ⟨e9, he9⟩ := hw'
          have hb9 := e9.below
          rw [← he9] at hb9
          clear he9 e9
          try dsimp only
          go_wp2
          go_ret
          exact ⟨ret_bool HN.out.symm, bon HB.out hb9⟩
        · have d1 : decide (ix c.coefs k < 1) = false := decide_eq_false c1
          by_cases c2 : c.bound < ix c.coefs k
          · have d2 : decide (c.bound < ix c.coefs k) = true := decide_eq_true c2
            have HN := Lib.hid (HFA.out (by rw [HCK.out, show decide (ix c.coefs k ≤ c.bound) = false from decide_eq_false (by omega)]; simp))
            have HV2 := HV1
            clear hp hok hbx hb hcc1 hcc2 HFA HGO fk1
            go_wp2
            refine wp_region_ext (by kernel_rfl) (by kernel_rfl) ?_
            repeat (go_big_quiet_step ((first | (go_at_call 103; exact Calls.ext_of_same (HLI.out _)) | (go_at_call 104; first | with_reducible exact Calls.ext_of_same (HV1.out _) | with_reducible exact Calls.ext_of_same (HV2.out _)))))
            refine wpQuiet_nil ?_
            intro w9 hw'
            obtain ⟨e9, he9⟩ := hw'
            have hb9 := e9.below
            rw [← he9] at hb9
            clear he9 e9
            try dsimp only
            go_wp2
            go_ret
            exact ⟨ret_bool HN.out.symm, bon HB.out hb9⟩
          · have d2 : decide (c.bound < ix c.coefs k) = false := decide_eq_false c2
            have hq2 := (bcell hb _ _ hbl2).trans (hcc2 k hlt2)
            by_cases c3 : k = 0
            · subst c3
              have HN := Lib.hid (HGO.out (by rw [HCK.out, HPL.out, decide_eq_true (show lastF 0 (pz c 0) < ((ix c.lits 0).natAbs : Int) by (show (0 : Int) < _; omega)), decide_eq_true (show 1 ≤ ix c.coefs 0 by omega), decide_eq_true (show ix c.coefs 0 ≤ c.bound by omega)]; rfl))
              have HV2 := HV1
              have q10 : ∀ e : Ext wr, e.world.cell? ⟨b1, o1, none⟩ = some (.int .i64 (ix c.lits 0)) := q1
              have q20 : ∀ e : Ext wr, e.world.cell? ⟨b2, o2, none⟩ = some (.int .i64 (ix c.coefs 0)) := q2
              have hq2 : wr.cell? ⟨b2, o2, none⟩ = some (.int .i64 (ix c.coefs 0)) := hq2
              clear hp hok hbx hb hcc1 hcc2 HFA HGO fk1
              go_wp2
              refine wp_region_ext (by kernel_rfl) (by kernel_rfl) ?_
              repeat (go_big_quiet_step ((first | (go_at_call 103; exact Calls.ext_of_same (HLI.out _)) | (go_at_call 104; first | with_reducible exact Calls.ext_of_same (HV1.out _) | with_reducible exact Calls.ext_of_same (HV2.out _)))))
              refine wpQuiet_nil ?_
              intro w9 hw'
              obtain ⟨e9, he9⟩ := hw'
              have hb9 := e9.below
              rw [← he9] at hb9
              clear he9 e9
              try dsimp only
              have k9 := (bcell hb9 _ _ hz2).trans hq2
              have x9 := (HX.out.below hb9).cell
              go_wp2
              first
                | (go_roundw
                   case rel => (exact ⟨1, hlt, by go_num, by rw [HSM.out], HN.out, HX.out.below hb9, bon HB.out hb9⟩)
                   case measure => (simp [intOf]; omega))
                | (refine ⟨?_, ?_⟩
                   · (exact ⟨1, hlt, by go_num, by rw [HSM.out], HN.out, HX.out.below hb9, bon HB.out hb9⟩)
                   · (simp [intOf]; omega))
            · have d3 : decide (0 < k) = true := decide_eq_true (by omega)
              have hk1 : k - 1 < c.lits.length := by omega
              have q3 : ∀ e : Ext wr, e.world.cell? ⟨b1, o1 + (k - 1), none⟩ = some (.int .i64 (ix c.lits (k - 1))) := fun e => (bcell e.below _ _ hz1).trans ((bcell hb _ _ hbl1).trans (hcc1 (k - 1) hk1))
              have hla : lastF 0 (pz c k) = ((ix c.lits (k - 1)).natAbs : Int) := by
                have := pz_last hk1 HE.out
                rwa [show k - 1 + 1 = k by omega] at this
              have hpr : -65536 ≤ ix c.lits (k - 1) ∧ ix c.lits (k - 1) ≤ 65536 := by
                have h1 := hok
                rw [show k = k - 1 + 1 by omega, pz_next hk1 HE.out, okF_snoc, Bool.and_eq_true] at h1
                have h2 := h1.2
                unfold chkB plitB at h2
                simp only [Bool.and_eq_true, decide_eq_true_eq] at h2
                omega
              have HV2 : Hid (∀ w, Calls Tryz.prog 104 #[.int .i64 (ix c.lits (k - 1))] w fun e w' => e = .returned (.int .i64 ((ix c.lits (k - 1)).natAbs : Int)) ∧ w = w') := Lib.hid (fun w => rvar_any _ w (by omega))
              rw [hla] at HCK HFA HGO
              by_cases c4 : ((ix c.lits k).natAbs : Int) ≤ ((ix c.lits (k - 1)).natAbs : Int)
              · have d4 : decide (((ix c.lits k).natAbs : Int) ≤ ((ix c.lits (k - 1)).natAbs : Int)) = true := decide_eq_true c4
                have HN := Lib.hid (HFA.out (by rw [HCK.out, decide_eq_false (show ¬ ((ix c.lits (k - 1)).natAbs : Int) < ((ix c.lits k).natAbs : Int) by omega)]; simp))
                clear hp hok hbx hb hcc1 hcc2 HFA HGO fk1 hla c4
                generalize ((ix c.lits k).natAbs : Int) = y1 at *
                generalize ((ix c.lits (k - 1)).natAbs : Int) = y2 at *
                go_wp2
                refine wp_region_ext (by kernel_rfl) (by kernel_rfl) ?_
                repeat (go_big_quiet_step ((first | (go_at_call 103; exact Calls.ext_of_same (HLI.out _)) | (go_at_call 104; first | with_reducible exact Calls.ext_of_same (HV1.out _) | with_reducible exact Calls.ext_of_same (HV2.out _)))))
                refine wpQuiet_nil ?_
                intro w9 hw'
                obtain ⟨e9, he9⟩ := hw'
                have hb9 := e9.below
                rw [← he9] at hb9
                clear he9 e9
                try dsimp only
                go_wp2
                go_ret
                exact ⟨ret_bool HN.out.symm, bon HB.out hb9⟩
              · have d4 : decide (((ix c.lits k).natAbs : Int) ≤ ((ix c.lits (k - 1)).natAbs : Int)) = false := decide_eq_false c4
                have HN := Lib.hid (HGO.out (by rw [HCK.out, HPL.out, decide_eq_true (show ((ix c.lits (k - 1)).natAbs : Int) < ((ix c.lits k).natAbs : Int) by omega), decide_eq_true (show 1 ≤ ix c.coefs k by omega), decide_eq_true (show ix c.coefs k ≤ c.bound by omega)]; rfl))
                clear hp hok hbx hb hcc1 hcc2 HFA HGO fk1 hla c4 HCK
                generalize ((ix c.lits k).natAbs : Int) = y1 at *
                generalize ((ix c.lits (k - 1)).natAbs : Int) = y2 at *
                go_wp2
                refine wp_region_ext (by kernel_rfl) (by kernel_rfl) ?_
                repeat (go_big_quiet_step ((first | (go_at_call 103; exact Calls.ext_of_same (HLI.out _)) | (go_at_call 104; first | with_reducible exact Calls.ext_of_same (HV1.out _) | with_reducible exact Calls.ext_of_same (HV2.out _)))))
                refine wpQuiet_nil ?_
                intro w9 hw'
                obtain ⟨e9, he9⟩ := hw'
                have hb9 := e9.below
                rw [← he9] at hb9
                clear he9 e9
                try dsimp only
                have k9 := (bcell hb9 _ _ hz2).trans hq2
                have x9 := (HX.out.below hb9).cell
                go_wp2
                first
                  | (go_roundw
                     case rel => (exact ⟨k + 1, hlt, by go_num, by rw [HSM.out], HN.out, HX.out.below hb9, bon HB.out hb9⟩)
                     case measure => (simp [intOf]; omega))
                  | (refine ⟨?_, ?_⟩
                     · (exact ⟨k + 1, hlt, by go_num, by rw [HSM.out], HN.out, HX.out.below hb9, bon HB.out hb9⟩)
                     · (simp [intOf]; omega))
    · obtain rfl : k = c.lits.length := by omega
      have hall := HOK.out
      rw [pz_all HE.out] at hall hs2 hs4
      rw [hall, Bool.true_and] at HPV
      have HZ := Lib.hid (pz_all HE.out)
      rw [pz_all HE.out]
      clear hall hok hbx hb HE HOK
      generalize sumP (c.lits.zip c.coefs) = T at *
      by_cases t1 : c.bound ≤ T
      · have HN : Hid (pbV c = true) := Lib.hid (by rw [HPV.out, decide_eq_true t1]; rfl)
        go_wp2
        go_ret
        exact ⟨ret_bool HN.out.symm, HB.out⟩
      · rw [decide_eq_false t1, Bool.false_or] at HPV
        by_cases t2 : c.lits.length = 0
        · have ht2 : ((c.lits.length : Int) == 0) = true := by simp [t2]
          rw [decide_eq_true t2, Bool.true_and] at HPV
          clear t2
          by_cases t3 : c.bound = 1
          · have ht3 : (c.bound == 1) = true := by simp [t3]
            have HN : Hid (pbV c = true) := Lib.hid (by rw [HPV.out, decide_eq_true t3])
            clear t3
            go_wp2
            go_ret
            exact ⟨ret_bool HN.out.symm, HB.out⟩
          · have ht3 : (c.bound == 1) = false := by simp [t3]
            have HN : Hid (pbV c = false) := Lib.hid (by rw [HPV.out, decide_eq_false t3])
            clear t3
            go_wp2
            go_ret
            exact ⟨ret_bool HN.out.symm, HB.out⟩
        · have ht2 : ((c.lits.length : Int) == 0) = false := by rw [beq_eq_false_iff_ne]; omega
          have HN : Hid (pbV c = false) := Lib.hid (by rw [HPV.out, decide_eq_false t2]; rfl)
          go_wp2
          go_ret
          exact ⟨ret_bool HN.out.symm, HB.out⟩

end Go.Proofs.YtfhpfbakoiekpaaGreatDoor
