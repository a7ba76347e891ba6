/- My texts Awk1, Open, Lt27, Frame, FrameB, merged. -/
import Derived.Test.YtfhpfbakoiekpaaGreatDoorM21
import Derived.Test.YtfhpfbakoiekpaaGreatDoorM00
import Derived.ProofKit
import Derived.OpenShut
import Derived.ChangeArms
import Derived.SizedLaws
import Derived.Test.YtfhpfbakoiekpaaGreatDoorM19
import Derived.Test.YtfhpfbakoiekpaaGreatDoorM20
import Derived.Test.YtfhpfbakoiekpaaGreatDoorM05
import Derived.Test.YtfhpfbakoiekpaaGreatDoorM12
import Derived.Test.YtfhpfbakoiekpaaGreatDoorM08

/- ostlerlaw27.awake returns true. -/
namespace Go.Proofs.YtfhpfbakoiekpaaGreatDoor
open Go.RowKit

set_option maxHeartbeats 4000000 in
set_option maxRecDepth 100000 in
theorem claw_any (v : Value) (l : List Int) (w : World) (h : Ints w v l) :
    Calls Tryz.prog 26 #[v] w fun e w' => ∃ vp, e = .returned vp ∧ PBQ w.heap.size w' vp (clauseP l).1 ∧ Below w.heap.size w w' := by
  have h0 := h
  obtain ⟨a1, c1, rfl, -⟩ := h.form
  have hal := bal (Below.refl w.heap.size w) (.cells #[.slice none 0 0, .slice none 0 0, .int .i64 0] 30)
  have HAL := Lib.hid hal
  have HB0 := Lib.hid (Blk.new w pbZ 30)
  have HI := Lib.hid (h0.below hal)
  clear hal h h0
  go_enter Tryz.func26, Tryz.ntmps26
  go_upto_region 1 with fail
  generalize w.alloc (.cells #[.slice none 0 0, .slice none 0 0, .int .i64 0] 30) = W0 at *
  go_wp2_with (go_at_call 30; (with_reducible refine (clause_any _ l W0 HI.out).mono ?_); rintro e w1 ⟨vp, rfl, ⟨vl, vk, rfl, hq1, hq2, hq3⟩, hb1⟩; obtain ⟨al, nl, cl, rfl⟩ := hq1.form; obtain ⟨ak, nk, ck, rfl⟩ := hq2.form; have HQ1 := Lib.hid hq1; have HQ2 := Lib.hid hq2; have HQ3 := Lib.hid hq3; have HB1 := Lib.hid hb1; have kx := (HB0.out.below hb1).cell; have kf := (HB0.out.below hb1).free; have hz1 : w.heap.size < w1.heap.size := (HB0.out.below hb1).lt; clear hq1 hq2 hb1)
  have hal2 := fun (W : World) => bal (Below.refl W.heap.size W) (.cells #[.slice al nl cl, .slice ak nk ck, .int .i64 (clauseP l).1.bound] 30)
  have hb3 := below3 (bon HAL.out HB1.out) w.heap.size (Nat.le_refl _) (.slice al nl cl) (.slice ak nk ck) (.int .i64 (clauseP l).1.bound)
  have h1 := row3 HQ1.out w.heap.size HB0.out.lt (.slice al nl cl) (.slice ak nk ck) (.int .i64 (clauseP l).1.bound)
  have h2 := row3 HQ2.out w.heap.size HB0.out.lt (.slice al nl cl) (.slice ak nk ck) (.int .i64 (clauseP l).1.bound)
  have hz0 := HB0.out.lt
  refine bodyPost_ret (v := .agg #[.slice al nl cl, .slice ak nk ck, .int .i64 (clauseP l).1.bound]) (by simp [results, Tryz.f26, go_sem, kx, hz1]) rfl ⟨_, rfl, ⟨_, _, rfl, (h1.below (hal2 _)).mono (by omega), (h2.below (hal2 _)).mono (by omega), hq3⟩, bon hb3 (hal2 _)⟩

/-- What awake leans on behind its first statements. -/
structure AwSt (w W : World) : Prop where
  prog : ProgIs W (.agg #[.int .i64 3, .slice (some ⟨w.heap.size, 0, none⟩) 3 3, .slice none 0 0, .slice (some ⟨w.heap.size + 1 + 1 + 1 + 1 + 1 + 1 + 1 + 1, 0, none⟩) 4 4, .slice none 0 0]) loopP
  asg : Bytes8 W (.slice (some ⟨w.heap.size + 1 + 1 + 1 + 1 + 1 + 1 + 1 + 1 + 1 + 1, 0, none⟩) 7 7) aw
  set : Ints W (.slice (some ⟨w.heap.size + 1 + 1 + 1 + 1 + 1 + 1 + 1 + 1 + 1 + 1 + 1, 0, none⟩) 2 2) [1, 2]
  box : Blk W (w.heap.size + 1 + 1 + 1 + 1 + 1 + 1 + 1 + 1 + 1) [.int .i64 3, .slice (some ⟨w.heap.size, 0, none⟩) 3 3, .slice none 0 0, .slice (some ⟨w.heap.size + 1 + 1 + 1 + 1 + 1 + 1 + 1 + 1, 0, none⟩) 4 4, .slice none 0 0] 27
  below : Below w.heap.size w W

theorem AwSt.on {w W W' : World} (h : AwSt w W) (hb : Below W.heap.size W W') : AwSt w W' := ⟨h.prog.below hb, h.asg.below hb, h.set.below hb, h.box.below hb, bon h.below hb⟩

/-- A constraint in a box. -/
def BoxC (b : Nat) (vl vk : Value) (c : PBC) (W : World) : Prop := Blk W b [vl, vk, .int .i64 c.bound] 30 ∧ PBIs W (.agg #[vl, vk, .int .i64 c.bound]) c

theorem BoxC.on {b : Nat} {vl vk : Value} {c : PBC} {W W' : World} (h : BoxC b vl vk c W) (hb : Below W.heap.size W W') : BoxC b vl vk c W' := ⟨h.1.below hb, h.2.below hb⟩

theorem BoxC.new {base : Nat} {W : World} {vl vk : Value} {c : PBC} (h1 : QRow base W vl c.lits) (h2 : QRow base W vk c.coefs) (h3 : InI c.bound ∧ c.lits.length ≤ 65536 ∧ c.coefs.length ≤ 65536) : BoxC W.heap.size vl vk c (W.alloc (.cells #[vl, vk, .int .i64 c.bound] 30)) := by
  have hal := bal (Below.refl W.heap.size W) (.cells #[vl, vk, .int .i64 c.bound] 30)
  exact ⟨Blk.new W [vl, vk, .int .i64 c.bound] _, _, _, rfl, (h1.below hal).ints (by omega), (h2.below hal).ints (by omega), h3.1⟩

/-- What the calls and the new slices of awake's last statement leave. -/
def awΦ (i : Nat) (_ : List Value) (v : Value) (lo hi : Nat) (w : World) : Prop :=
  match i with
  | 10 => v = .bool true
  | 14 => v = .string ⟨#[49, 32, 126, 120, 49, 32, 49, 32, 120, 54, 32, 62, 61, 32, 49]⟩
  | 19 => v = .string ⟨#[49, 32, 126, 120, 50, 32, 49, 32, 120, 54, 32, 62, 61, 32, 49]⟩
  | 25 => v = .slice (some ⟨lo, 0, none⟩) 2 2 ∧ lo < hi ∧ Blk w lo [.int .i64 (-1), .int .i64 3] 3
  | 26 => PBIs w v (clauseP [-1, 3]).1 ∧ ∃ al nl cl ak nk ck bd, v = .agg #[.slice al nl cl, .slice ak nk ck, .int .i64 bd]
  | 27 => v = .bool true
  | 32 => v = .slice (some ⟨lo, 0, none⟩) 1 1 ∧ lo < hi ∧ Blk w lo [.int .i64 (-1)] 3
  | 33 => PBIs w v (clauseP [-1]).1 ∧ ∃ al nl cl ak nk ck bd, v = .agg #[.slice al nl cl, .slice ak nk ck, .int .i64 bd]
  | 34 => v = .bool false
  | 39 => v = .slice (some ⟨lo, 0, none⟩) 2 2 ∧ lo < hi ∧ Blk w lo [.int .i8 0, .int .i8 1] 55
  | 40 => v = .slice (some ⟨lo, 0, none⟩) 1 1 ∧ lo < hi ∧ Blk w lo [.int .i64 1] 3
  | 41 => v = .bool true
  | _ => v = .string ⟨#[49, 32, 126, 120, 49, 32, 49, 32, 126, 120, 50, 32, 62, 61, 32, 49]⟩

theorem awΦ_later : ∀ i args v lo hi w w', awΦ i args v lo hi w → Below w.heap.size w w' → awΦ i args v lo hi w' := by
  intro i args v lo hi w w' h hb
  unfold awΦ at *
  split at h <;> first | exact h | exact ⟨h.1, h.2.1, h.2.2.below hb⟩ | exact ⟨h.1.below hb, h.2⟩

theorem PBQ.aw {base : Nat} {w : World} {v : Value} {c : PBC} (h : PBQ base w v c) : PBIs w v c ∧ ∃ al nl cl ak nk ck bd, v = .agg #[.slice al nl cl, .slice ak nk ck, .int .i64 bd] := by
  refine ⟨h.is, ?_⟩
  obtain ⟨vl, vk, rfl, h1, h2, -⟩ := h
  obtain ⟨_, _, _, rfl⟩ := h1.form
  obtain ⟨_, _, _, rfl⟩ := h2.form
  exact ⟨_, _, _, _, _, _, _, rfl⟩

theorem aw_string {c : PBC} {b : Nat} {vl vk : Value} {W : World} (h : BoxC b vl vk c W) (hv : pbV c = true) (hs : ∀ q ∈ c.lits.zip c.coefs, q.1.natAbs < 100 ∧ 0 ≤ q.2 ∧ q.2 < 100) (hb : 0 ≤ c.bound ∧ c.bound < 100) (hl : c.lits.length = c.coefs.length ∧ c.lits.length ≤ 1000) {l : List UInt8} (hl2 : strT c = l) :
    Calls Tryz.prog 25 #[.agg #[vl, vk, .int .i64 c.bound]] W fun e w' => e = .returned (.string ⟨l.toArray⟩) ∧ Below W.heap.size W w' := hl2 ▸ string_any _ c W h.2 hv hs hb hl

set_option maxHeartbeats 4000000 in
set_option maxRecDepth 100000 in
theorem awake27_any (w : World) : Calls Tryz.prog 6 #[] w fun e w' => e = .returned (.bool true) ∧ Below w.heap.size w w' := by
  go_enter Tryz.func6, Tryz.ntmps6
  go_upto_region 4 with fail
  generalize hW : World.alloc _ (.cells #[.int .i64 1, .int .i64 2] 3) = W0
  have hst : AwSt w W0 := by
    refine ⟨?_, ?_, ?_, ?_, ?_⟩
    · rw [← hW]
      refine loop_prog (m := w.heap.size) ((((((((((((Blk.new w [.string ⟨#[97]⟩, .string ⟨#[98]⟩, .string ⟨#[99]⟩] 9).alloc _).alloc _).alloc _).alloc _).alloc _).alloc _).alloc _).alloc _).alloc _).alloc _).alloc _) ?_ ?_ ?_ ?_ ?_ ?_ ?_ ?_ <;> (unfold Blk; simp only [alloc_at]; simp [loopCells])
    · rw [← hW]
      refine Blk.bytes8 (l := aw) ?_ (fit8 (by simp [aw])) (by simp [aw])
      unfold Blk; simp only [alloc_at]; simp [aw]
    · rw [← hW]
      refine Blk.ints (l := [1, 2]) ?_ (fitI (by simp [InI])) (by simp)
      unfold Blk; simp only [alloc_at]; simp
    · rw [← hW]
      unfold Blk; simp only [alloc_at]; simp
    · rw [← hW]
      exact bal (bal (bal (bal (bal (bal (bal (bal (bal (bal (bal (bal (Below.refl _ _) _) _) _) _) _) _) _) _) _) _) _) _
  clear hW
  have HS0 := Lib.hid hst
  have kP0 := hst.box.cell
  clear hst
  go_upto_region 5 with (go_at_call 7; refine (make_any _ _ _ loopP aw [1, 2] 1 _ HS0.out.prog HS0.out.asg HS0.out.set (by unfold InI; omega)).mono ?_; rintro e w1 ⟨vc, e1, hq, hb1⟩; rw [aw_make1] at e1 hq; subst e1; obtain ⟨vl, vk, rfl, hq1, hq2, hq3⟩ := hq; obtain ⟨al1, nl1, cl1, rfl⟩ := hq1.form; obtain ⟨ak1, nk1, ck1, rfl⟩ := hq2.form; have hc1 := BoxC.new hq1 hq2 hq3; have hs1 := (HS0.out.on hb1).on (bal (Below.refl w1.heap.size w1) (.cells #[.slice al1 nl1 cl1, .slice ak1 nk1 ck1, .int .i64 cA.bound] 30)); clear hq1 hq2 hq3 hb1)
  have HS1 := Lib.hid hs1
  have HC1 := Lib.hid hc1
  have kP1 := hs1.box.cell
  clear hs1 hc1 kP0
  generalize w1.alloc (.cells #[.slice al1 nl1 cl1, .slice ak1 nk1 ck1, .int .i64 cA.bound] 30) = W1 at *
  go_upto_region 6 with (go_at_call 7; refine (make_any _ _ _ loopP aw [1, 2] 2 _ HS1.out.prog HS1.out.asg HS1.out.set (by unfold InI; omega)).mono ?_; rintro e w2 ⟨vc, e1, hq, hb1⟩; rw [aw_make2] at e1 hq; subst e1; obtain ⟨vl, vk, rfl, hq1, hq2, hq3⟩ := hq; obtain ⟨al2, nl2, cl2, rfl⟩ := hq1.form; obtain ⟨ak2, nk2, ck2, rfl⟩ := hq2.form; have hc2 := BoxC.new hq1 hq2 hq3; have hal2 := bal (Below.refl w2.heap.size w2) (.cells #[.slice al2 nl2 cl2, .slice ak2 nk2 ck2, .int .i64 cB.bound] 30); have hs2 := (HS1.out.on hb1).on hal2; have hc12 := (HC1.out.on hb1).on hal2; clear hq1 hq2 hq3 hb1 hal2)
  have HS2 := Lib.hid hs2
  have HC2 := Lib.hid hc2
  have HC12 := Lib.hid hc12
  clear hs2 hc2 hc12 kP1
  generalize w2.alloc (.cells #[.slice al2 nl2 cl2, .slice ak2 nk2 ck2, .int .i64 cB.bound] 30) = W2 at *
  go_upto_region 7 with fail
  generalize hW : World.alloc _ (.cells #[.int .i64 2, .slice (some ⟨W2.heap.size, 0, none⟩) 2 2, .slice none 0 0, .slice (some ⟨W2.heap.size + 1 + 1, 0, none⟩) 1 1, .slice none 0 0] 27) = W3
  have hb3 : Below W2.heap.size W2 W3 := by rw [← hW]; exact bal (bal (bal (bal (Below.refl _ _) _) _) _) _
  have hqp : ProgIs W3 (.agg #[.int .i64 2, .slice (some ⟨W2.heap.size, 0, none⟩) 2 2, .slice none 0 0, .slice (some ⟨W2.heap.size + 1 + 1, 0, none⟩) 1 1, .slice none 0 0]) disP := by
    rw [← hW]
    refine dis_prog (n1 := W2.heap.size) (n2 := W2.heap.size + 1) (n3 := W2.heap.size + 1 + 1) ((((Blk.new W2 [.string ⟨#[97]⟩, .string ⟨#[98]⟩] 9).alloc _).alloc _).alloc _) ?_ ?_ <;> (unfold Blk; simp only [alloc_at]; simp)
  have hqb : Blk W3 (W2.heap.size + 1 + 1 + 1) [.int .i64 2, .slice (some ⟨W2.heap.size, 0, none⟩) 2 2, .slice none 0 0, .slice (some ⟨W2.heap.size + 1 + 1, 0, none⟩) 1 1, .slice none 0 0] 27 := by
    rw [← hW]
    unfold Blk; simp only [alloc_at]; simp
  clear hW
  have HS3 := Lib.hid (HS2.out.on hb3)
  have HC13 := Lib.hid (HC12.out.on hb3)
  have HC23 := Lib.hid (HC2.out.on hb3)
  have HQP := Lib.hid hqp
  have HQB := Lib.hid hqb
  have kQ := hqb.cell
  clear hb3 hqp hqb
  have hbA : Below W3.heap.size W3 ((W3.alloc (.cells #[.int .i8 0, .int .i8 1] 55)).alloc (.cells #[.int .i64 1] 3)) := bal (bal (Below.refl _ _) _) _
  have hq8 : Bytes8 ((W3.alloc (.cells #[.int .i8 0, .int .i8 1] 55)).alloc (.cells #[.int .i64 1] 3)) (.slice (some ⟨W3.heap.size, 0, none⟩) 2 2) [0, 1] := Blk.bytes8 (l := [0, 1]) ((Blk.new W3 [.int .i8 0, .int .i8 1] 55).alloc _) (fit8 (by simp)) (by simp)
  have hq1 : Ints ((W3.alloc (.cells #[.int .i8 0, .int .i8 1] 55)).alloc (.cells #[.int .i64 1] 3)) (.slice (some ⟨W3.heap.size + 1, 0, none⟩) 1 1) [1] := (Blk.new2 W3 _ [.int .i64 1] 3).ints1 (by unfold InI; omega)
  have HBA := Lib.hid hbA
  have HQ8 := Lib.hid hq8
  have HQ1 := Lib.hid hq1
  clear hbA hq8 hq1
  go_upto_region 8 with (go_at_call 7; refine (make_any _ _ _ disP [0, 1] [1] 1 _ (HQP.out.below HBA.out) HQ8.out HQ1.out (by unfold InI; omega)).mono ?_; rintro e w4 ⟨vc, e1, hq, hb1⟩; rw [aw_make3] at e1 hq; subst e1; obtain ⟨vl, vk, rfl, hq1, hq2, hq3⟩ := hq; obtain ⟨al3, nl3, cl3, rfl⟩ := hq1.form; obtain ⟨ak3, nk3, ck3, rfl⟩ := hq2.form; have hc3 := BoxC.new hq1 hq2 hq3; have hal4 := bal (Below.refl w4.heap.size w4) (.cells #[.slice al3 nl3 cl3, .slice ak3 nk3 ck3, .int .i64 cC.bound] 30); have hb34 := bon (bon HBA.out hb1) hal4; clear hq1 hq2 hq3 hb1 hal4)
  have HS4 := Lib.hid (HS3.out.on hb34)
  have HC14 := Lib.hid (HC13.out.on hb34)
  have HC24 := Lib.hid (HC23.out.on hb34)
  have HC34 := Lib.hid hc3
  have HQP4 := Lib.hid (HQP.out.below hb34)
  have HQB4 := Lib.hid (HQB.out.below hb34)
  clear hc3 hb34 kQ HBA HQ8 HQ1 HS3 HC13 HC23 HQP HQB
  generalize w4.alloc (.cells #[.slice al3 nl3 cl3, .slice ak3 nk3 ck3, .int .i64 cC.bound] 30) = W4 at *
  have kp : ∀ e : Ext W4, ∀ o, e.world.cell? ⟨w.heap.size + 1 + 1 + 1 + 1 + 1 + 1 + 1 + 1 + 1, o, none⟩ = _ := fun e o => (bcell e.below _ o HS4.out.box.lt).trans (HS4.out.box.cell o)
  have kc : ∀ e : Ext W4, ∀ o, e.world.cell? ⟨w1.heap.size, o, none⟩ = _ := fun e o => (bcell e.below _ o HC14.out.1.lt).trans (HC14.out.1.cell o)
  have kd : ∀ e : Ext W4, ∀ o, e.world.cell? ⟨w2.heap.size, o, none⟩ = _ := fun e o => (bcell e.below _ o HC24.out.1.lt).trans (HC24.out.1.cell o)
  have kg : ∀ e : Ext W4, ∀ o, e.world.cell? ⟨w4.heap.size, o, none⟩ = _ := fun e o => (bcell e.below _ o HC34.out.1.lt).trans (HC34.out.1.cell o)
  have kq : ∀ e : Ext W4, ∀ o, e.world.cell? ⟨W2.heap.size + 1 + 1 + 1, o, none⟩ = _ := fun e o => (bcell e.below _ o HQB4.out.lt).trans (HQB4.out.cell o)
  refine wp_region_perm' awΦ (fun i => i == 10 || i == 14 || i == 19 || i == 25 || i == 26 || i == 27 || i == 32 || i == 33 || i == 34 || i == 39 || i == 40 || i == 41 || i == 45) (by kernel_rfl) (by kernel_rfl) (by kernel_rfl) awΦ_later ?_
  iterate 10 (refine walkP_calm rfl rfl rfl (fun K hK => ?_); go_big_quiet_op; refine hK _ ?_; clear hK K)
  refine walkP_mem rfl rfl (fun wa hba hFa => ?_) (fun v lo hi l g h => ?_)
  · go_simp
    exact (unfounded_any _ _ _ loopP aw [1, 2] _ (HS4.out.on hba).prog (HS4.out.on hba).asg (HS4.out.on hba).set).mono (fun e w2 ⟨h1, h2⟩ => ⟨_, h1.trans (by rw [aw_unf1]), h2, rfl⟩)
  obtain ⟨_, rfl⟩ := h
  simp only [Act.put, List.setIfInBounds_toArray, List.set_cons_succ, List.set_cons_zero]
  iterate 3 (refine walkP_calm rfl rfl rfl (fun K hK => ?_); go_big_quiet_op; refine hK _ ?_; clear hK K)
  refine walkP_mem rfl rfl (fun wa hba hFa => ?_) (fun v lo hi l g h => ?_)
  · go_simp
    exact (aw_string (HC14.out.on hba) aw_pv1 (by decide) (by decide) (by decide) aw_str1).mono (fun e w2 ⟨h1, h2⟩ => ⟨_, h1, h2, rfl⟩)
  obtain ⟨_, rfl⟩ := h
  simp only [Act.put, List.setIfInBounds_toArray, List.set_cons_succ, List.set_cons_zero]
  iterate 4 (refine walkP_calm rfl rfl rfl (fun K hK => ?_); go_big_quiet_op; refine hK _ ?_; clear hK K)
  refine walkP_mem rfl rfl (fun wa hba hFa => ?_) (fun v lo hi l g h => ?_)
  · go_simp
    exact (aw_string (HC24.out.on hba) aw_pv2 (by decide) (by decide) (by decide) aw_str2).mono (fun e w2 ⟨h1, h2⟩ => ⟨_, h1, h2, rfl⟩)
  obtain ⟨_, rfl⟩ := h
  simp only [Act.put, List.setIfInBounds_toArray, List.set_cons_succ, List.set_cons_zero]
  iterate 5 (refine walkP_calm rfl rfl rfl (fun K hK => ?_); go_big_quiet_op; refine hK _ ?_; clear hK K)
  refine walkP_mem rfl rfl (fun wa hba hFa => ?_) (fun v lo hi l g h => ?_)
  · go_simp
    exact ⟨bal (Below.refl _ _) _, rfl, by simp, Blk.new _ _ _⟩
  obtain ⟨_, rfl, -, -⟩ := h
  simp only [Act.put, List.setIfInBounds_toArray, List.set_cons_succ, List.set_cons_zero]
  refine walkP_mem rfl rfl (fun wa hba hFa => ?_) (fun v26 lo hi l g h => ?_)
  · have f0 := hFa _ (.head _) (by kernel_rfl)
    obtain ⟨-, -, f0⟩ := f0
    go_simp
    exact (claw_any _ [-1, 3] _ (Blk.ints (l := [-1, 3]) f0 (fitI (by simp [InI])) (by simp))).mono (fun e w2 ⟨vp, h1, h2, h3⟩ => ⟨_, h1, h3, h2.aw⟩)
  obtain ⟨_, -, al26, nl26, cl26, ak26, nk26, ck26, bd26, rfl⟩ := h
  simp only [Act.put, List.setIfInBounds_toArray, List.set_cons_succ, List.set_cons_zero]
  refine walkP_mem rfl rfl (fun wa hba hFa => ?_) (fun v lo hi l g h => ?_)
  · have f0 := hFa _ (.head _) (by kernel_rfl)
    go_simp
    exact (lval_any _ _ _ loopP [1, 2] _ _ (HS4.out.on hba).prog (HS4.out.on hba).set f0.1).mono (fun e w2 ⟨h1, h2⟩ => ⟨_, h1.trans (by rw [aw_val1]), h2, rfl⟩)
  obtain ⟨_, rfl⟩ := h
  simp only [Act.put, List.setIfInBounds_toArray, List.set_cons_succ, List.set_cons_zero]
  iterate 4 (refine walkP_calm rfl rfl rfl (fun K hK => ?_); go_big_quiet_op; refine hK _ ?_; clear hK K)
  refine walkP_mem rfl rfl (fun wa hba hFa => ?_) (fun v lo hi l g h => ?_)
  · go_simp
    exact ⟨bal (Below.refl _ _) _, rfl, by simp, Blk.new _ _ _⟩
  obtain ⟨_, rfl, -, -⟩ := h
  simp only [Act.put, List.setIfInBounds_toArray, List.set_cons_succ, List.set_cons_zero]
  refine walkP_mem rfl rfl (fun wa hba hFa => ?_) (fun v33 lo hi l g h => ?_)
  · have f0 := hFa _ (.head _) (by kernel_rfl)
    obtain ⟨-, -, f0⟩ := f0
    go_simp
    exact (claw_any _ [-1] _ (f0.ints1 (by unfold InI; omega))).mono (fun e w2 ⟨vp, h1, h2, h3⟩ => ⟨_, h1, h3, h2.aw⟩)
  obtain ⟨_, -, al33, nl33, cl33, ak33, nk33, ck33, bd33, rfl⟩ := h
  simp only [Act.put, List.setIfInBounds_toArray, List.set_cons_succ, List.set_cons_zero]
  refine walkP_mem rfl rfl (fun wa hba hFa => ?_) (fun v lo hi l g h => ?_)
  · have f0 := hFa _ (.head _) (by kernel_rfl)
    go_simp
    exact (lval_any _ _ _ loopP [1, 2] _ _ (HS4.out.on hba).prog (HS4.out.on hba).set f0.1).mono (fun e w2 ⟨h1, h2⟩ => ⟨_, h1.trans (by rw [aw_val2]), h2, rfl⟩)
  obtain ⟨_, rfl⟩ := h
  simp only [Act.put, List.setIfInBounds_toArray, List.set_cons_succ, List.set_cons_zero]
  iterate 4 (refine walkP_calm rfl rfl rfl (fun K hK => ?_); go_big_quiet_op; refine hK _ ?_; clear hK K)
  refine walkP_mem rfl rfl (fun wa hba hFa => ?_) (fun v lo hi l g h => ?_)
  · go_simp
    exact ⟨bal (Below.refl _ _) _, rfl, by simp, Blk.new _ _ _⟩
  obtain ⟨_, rfl, -, -⟩ := h
  simp only [Act.put, List.setIfInBounds_toArray, List.set_cons_succ, List.set_cons_zero]
  refine walkP_mem rfl rfl (fun wa hba hFa => ?_) (fun v lo hi l g h => ?_)
  · go_simp
    exact ⟨bal (Below.refl _ _) _, rfl, by simp, Blk.new _ _ _⟩
  obtain ⟨_, rfl, -, -⟩ := h
  simp only [Act.put, List.setIfInBounds_toArray, List.set_cons_succ, List.set_cons_zero]
  refine walkP_mem rfl rfl (fun wa hba hFa => ?_) (fun v lo hi l g h => ?_)
  · have f40 := hFa _ (.head _) (by kernel_rfl)
    have f39 := hFa _ (.tail _ (.head _)) (by kernel_rfl)
    obtain ⟨-, -, f40⟩ := f40
    obtain ⟨-, -, f39⟩ := f39
    go_simp
    exact (unfounded_any _ _ _ disP [0, 1] [1] _ (HQP4.out.below hba) (Blk.bytes8 (l := [0, 1]) f39 (fit8 (by simp)) (by simp)) (f40.ints1 (by unfold InI; omega))).mono (fun e w2 ⟨h1, h2⟩ => ⟨_, h1.trans (by rw [aw_unf2]), h2, rfl⟩)
  obtain ⟨_, rfl⟩ := h
  simp only [Act.put, List.setIfInBounds_toArray, List.set_cons_succ, List.set_cons_zero]
  iterate 3 (refine walkP_calm rfl rfl rfl (fun K hK => ?_); go_big_quiet_op; refine hK _ ?_; clear hK K)
  refine walkP_mem rfl rfl (fun wa hba hFa => ?_) (fun v lo hi l g h => ?_)
  · go_simp
    exact (aw_string (HC34.out.on hba) aw_pv3 (by decide) (by decide) (by decide) aw_str3).mono (fun e w2 ⟨h1, h2⟩ => ⟨_, h1, h2, rfl⟩)
  obtain ⟨_, rfl⟩ := h
  simp only [Act.put, List.setIfInBounds_toArray, List.set_cons_succ, List.set_cons_zero]
  iterate 3 (refine walkP_calm rfl rfl rfl (fun K hK => ?_); go_big_quiet_op; refine hK _ ?_; clear hK K)
  intro wx hbx hF hI hP
  have HBX := Lib.hid (bon HS4.out.below hbx)
  clear hF hI hP hbx
  go_wp2_with fail
  go_ret
  exact ⟨rfl, HBX.out⟩

end Go.Proofs.YtfhpfbakoiekpaaGreatDoor

/- How the arguments of the statements read: from the claim's form to this folder's predicates. -/
namespace Go.Proofs.YtfhpfbakoiekpaaGreatDoor
open Go.RowKit

theorem list_of {α : Type} (d : α) {Q : Nat → α → Prop} : ∀ (n : Nat), (∀ i, i < n → ∃ x, Q i x) → ∃ l : List α, l.length = n ∧ ∀ i, i < n → Q i (l.getD i d)
  | 0, _ => ⟨[], rfl, fun i hi => absurd hi (Nat.not_lt_zero _)⟩
  | n + 1, h => by
    obtain ⟨l, hl, hq⟩ := list_of d n (fun i hi => h i (by omega))
    obtain ⟨x, hx⟩ := h n (by omega)
    refine ⟨l ++ [x], by simp [hl], fun i hi => ?_⟩
    by_cases e : i < n
    · have := hq i e
      rw [List.getD_eq_getElem?_getD, List.getElem?_append_left (by omega), ← List.getD_eq_getElem?_getD]
      exact this
    · obtain rfl : i = n := by omega
      rw [List.getD_eq_getElem?_getD, List.getElem?_append_right (by omega)]
      simp [hl, hx]

section
variable {H : Type} {enc : TypeId × Value → H} {P : Program} {w : World}

/-- The cells of one value in memory read as a datum whose parts are within the reach. -/
def Reads (enc : TypeId × Value → H) (P : Program) (w : World) (t : TypeId) (cs : List Value) : Prop :=
  ∃ fuel y, DataW.trod enc P w 0 (fun _ => true) true fuel t cs = some y ∧ ∀ m ∈ y.1.weights P t, m ≤ reachBytes

theorem cells_at {a : Addr} {n : Nat} {cs : List Value} (h : w.cells? 0 a n = some cs) : cs.length = n ∧ ∀ j, j < n → w.cell? (a.add j) = cs[j]? := by
  unfold World.cells? at h
  rw [if_pos (Nat.zero_le _)] at h
  refine ⟨by simpa using mapM_some_length h, fun j hj => ?_⟩
  exact mapM_some_get h j j (by simp [hj])

theorem weightsAll_mem {e : TypeId} : ∀ {l : List (DataW H)} {i : Nat} {d : DataW H}, l[i]? = some d → ∀ m ∈ d.weights P e, m ∈ DataW.weightsAll P e l
  | [], i, d, h, m, hm => by simp at h
  | x :: l, 0, d, h, m, hm => by
    simp only [List.getElem?_cons_zero, Option.some.injEq] at h
    subst h
    unfold DataW.weightsAll
    exact List.mem_append.2 (.inl hm)
  | x :: l, i + 1, d, h, m, hm => by
    simp only [List.getElem?_cons_succ] at h
    unfold DataW.weightsAll
    exact List.mem_append.2 (.inr (weightsAll_mem h m hm))

theorem open_slc {t e : TypeId} {sz byt : Nat} {cs : List Value} (ht : P.underlying t = some (.slice e)) (hc : P.cellsOf e = sz) (hs : 1 ≤ sz) (hb : P.bytesOf e = byt) (h : Reads enc P w t cs) :
    ∃ a n cap, cs = [.slice a n cap] ∧ n ≤ cap ∧ cap ≤ maxLen ∧ n * byt ≤ 140737488351232 ∧
      (0 < n → ∃ b off, a = some ⟨b, off, none⟩ ∧ b < w.heap.size ∧ ∀ i, i < n → ∃ cs', cs'.length = sz ∧ (∀ j, j < sz → w.cell? ⟨b, off + i * sz + j, none⟩ = cs'[j]?) ∧ Reads enc P w e cs') := by
  obtain ⟨fuel, y, hy, hw⟩ := h
  rcases DataW.trod_slice ht hy with ⟨rfl, rfl⟩ | ⟨a, len, cap, elems, rest, n, rfl, rfl, rfl, -, hl, hm, hlen, hel, -, -⟩
  · exact ⟨none, 0, 0, rfl, Nat.le_refl _, by unfold maxLen; omega, by omega, fun h => absurd h (Nat.lt_irrefl _)⟩
  · have hws : ∀ m, m ∈ DataW.weights P t (.slice (elems.map (·.1)) (rest.map (·.1))) ↔ m = ((elems.map (·.1)).length + (rest.map (·.1)).length) * P.bytesOf e ∨ m ∈ DataW.weightsAll P e (elems.map (·.1)) ∨ m ∈ DataW.weightsAll P e (rest.map (·.1)) := by
      intro m; simp only [DataW.weights, ht, List.mem_cons, List.mem_append]
    have hbig := hw _ ((hws _).2 (.inl rfl))
    simp only [List.length_map, hlen, hb] at hbig
    have hreach : reachBytes = 140737488351232 := by decide
    refine ⟨some a, len, cap, rfl, hl, hm, ?_, fun hp => ?_⟩
    · have : len * byt ≤ (len + rest.length) * byt := Nat.mul_le_mul_right _ (by omega)
      omega
    · obtain ⟨b, off, spot⟩ := a
      have each : ∀ i, i < len → ∃ cs' y, w.cells? 0 ((⟨b, off, spot⟩ : Addr).add (i * P.cellsOf e)) (P.cellsOf e) = some cs' ∧ DataW.trod enc P w 0 (fun _ => true) true n e cs' = some y ∧ elems[i]? = some y := fun i hi => by
        have h1 := hel i hi
        rw [List.getElem?_eq_getElem (by omega)] at h1
        obtain ⟨cs', h2, h3⟩ := Option.bind_eq_some_iff.1 h1
        exact ⟨cs', _, h2, h3, List.getElem?_eq_getElem (by omega)⟩
      have hspot : spot = none := by
        obtain ⟨cs', y, h1, -, -⟩ := each 0 hp
        rw [Nat.zero_mul, hc] at h1
        obtain ⟨h2, h3⟩ := cells_at h1
        have h4 := h3 0 (by omega)
        rw [List.getElem?_eq_getElem (by omega)] at h4
        simpa [Addr.add] using World.cell?_spot h4
      subst hspot
      have add : ∀ (x : Nat) (o : Nat), ((⟨b, x, none⟩ : Addr).add o) = ⟨b, x + o, none⟩ := fun x o => by unfold Addr.add; split <;> simp_all
      refine ⟨b, off, rfl, ?_, fun i hi => ?_⟩
      · obtain ⟨cs', y, h1, -, -⟩ := each 0 hp
        rw [Nat.zero_mul, hc] at h1
        obtain ⟨h2, h3⟩ := cells_at h1
        have h4 := h3 0 (by omega)
        rw [List.getElem?_eq_getElem (by omega)] at h4
        refine Classical.byContradiction fun hn => ?_
        have : w.heap[b]? = none := Array.getElem?_eq_none (by omega)
        simp [World.cell?, Addr.add, this] at h4
      · obtain ⟨cs', y, h1, h2, h3⟩ := each i hi
        rw [hc] at h1
        obtain ⟨h4, h5⟩ := cells_at h1
        refine ⟨cs', h4, fun j hj => ?_, n, y, h2, fun m hm => hw m ((hws m).2 (.inr (.inl ?_)))⟩
        · have := h5 j hj
          rw [add, add] at this
          exact this
        · exact weightsAll_mem (i := i) (by simp [h3]) m hm

theorem open_int1 {t : TypeId} {k : IntKind} {cs : List Value} (ht : P.underlying t = some (.int k)) (h : Reads enc P w t cs) : ∃ n, cs = [.int k n] ∧ (Lit.int k n).wf = true := by
  obtain ⟨fuel, y, hy, -⟩ := h
  obtain ⟨n, h1, -, h2⟩ := DataW.trod_int ht hy
  exact ⟨n, h1, h2⟩

theorem open_bool1 {t : TypeId} {cs : List Value} (ht : P.underlying t = some .bool) (h : Reads enc P w t cs) : ∃ b, cs = [.bool b] := by
  obtain ⟨fuel, y, hy, -⟩ := h
  obtain ⟨n, h1, -⟩ := DataW.trod_bool ht hy
  exact ⟨n, h1⟩

theorem open_str1 {t : TypeId} {cs : List Value} (ht : P.underlying t = some .string) (h : Reads enc P w t cs) : ∃ s, cs = [.string s] ∧ s.size ≤ 140737488351232 := by
  obtain ⟨fuel, y, hy, hw⟩ := h
  obtain ⟨s, h1, h2, -⟩ := DataW.trod_string ht hy
  subst h2
  refine ⟨s, h1, ?_⟩
  have := hw s.data.toList.length (by simp [DataW.weights])
  have hreach : reachBytes = 140737488351232 := by decide
  rw [hreach] at this
  simpa using this

/-- A field of a struct. -/
theorem open_fld {t : TypeId} {fs : Array Field} {cs : List Value} (ht : P.underlying t = some (.struct fs)) (h : Reads enc P w t cs) {i : Nat} {f : Field} (hf : fs[i]? = some f) : cs.length = P.cellsOf t ∧ Reads enc P w f.type ((cs.drop f.offset).take (P.cellsOf f.type)) := by
  obtain ⟨fuel, y, hy, hw⟩ := h
  obtain ⟨xs, n, rfl, rfl, hl, hx, hel⟩ := DataW.trod_struct ht hy
  refine ⟨hl, n, ?_⟩
  have h1 := hel i f hf
  have hi : i < fs.size := (Array.getElem?_eq_some_iff.1 hf).1
  rw [List.getElem?_eq_getElem (by omega)] at h1
  refine ⟨_, h1, fun m hm => hw m ?_⟩
  simp only [DataW.weights, ht]
  exact DataW.weights_mem_each (j := i) (t := f.type) (d := (xs[i]'(by omega)).1) (by simp [hf]) (by simp [List.getElem?_eq_getElem (show i < xs.length by omega)]) m hm
end

theorem open_at {H : Type} {enc : TypeId × Value → H} {P : Program} {w : World} {t : TypeId} {fs : Array Field} {cs : List Value} (ht : P.underlying t = some (.struct fs)) (h : Reads enc P w t cs) (i ty off n : Nat)
    (hf : (fs[i]?).map (fun f => (f.type, f.offset)) = some (ty, off)) (hn : P.cellsOf ty = n) : Reads enc P w ty ((cs.drop off).take n) := by
  obtain ⟨f, h1, h2⟩ := Option.map_eq_some_iff.1 hf
  simp only [Prod.mk.injEq] at h2
  obtain ⟨rfl, rfl⟩ := h2
  subst hn
  exact (open_fld ht h h1).2

theorem open_len {H : Type} {enc : TypeId × Value → H} {P : Program} {w : World} {t : TypeId} {fs : Array Field} {cs : List Value} (ht : P.underlying t = some (.struct fs)) (h : Reads enc P w t cs) : cs.length = P.cellsOf t := by
  obtain ⟨fuel, y, hy, hw⟩ := h
  obtain ⟨xs, n, rfl, rfl, hl, hx, hel⟩ := DataW.trod_struct ht hy
  exact hl

section
variable {H : Type} {enc : TypeId × Value → H} {w : World}

theorem wf_i64 {n : Int} (h : (Lit.int .i64 n).wf = true) : -9223372036854775808 ≤ n ∧ n ≤ 9223372036854775807 := by
  have := bounds_i64 h; omega
theorem wf_i8 {n : Int} (h : (Lit.int .i8 n).wf = true) : -128 ≤ n ∧ n ≤ 127 := by
  have := bounds_i8 h; omega

theorem open_Ints {cs : List Value} (h : Reads enc Tryz.prog w 23 cs) : ∃ v l, cs = [v] ∧ Ints w v l := by
  obtain ⟨a, n, cap, rfl, h1, h2, h3, h4⟩ := open_slc (sz := 1) (byt := 8) Tryz.underlying23 (by kernel_rfl) (Nat.le_refl _) (by kernel_rfl) h
  by_cases hp : 0 < n
  · obtain ⟨b, off, rfl, hb, hel⟩ := h4 hp
    obtain ⟨l, hl, hq⟩ := list_of (0 : Int) (Q := fun i z => w.cell? ⟨b, off + i, none⟩ = some (.int .i64 z) ∧ InI z) n (fun i hi => by
      obtain ⟨cs', h5, h6, h7⟩ := hel i hi
      obtain ⟨z, rfl, hz⟩ := open_int1 Tryz.underlying3 h7
      have := h6 0 (by omega)
      simp only [Nat.mul_one, Nat.add_zero, List.getElem?_cons_zero] at this
      exact ⟨z, this, wf_i64 hz⟩)
    refine ⟨_, l, rfl, ⟨_, cap, by rw [hl], by omega, h2, by omega, fun _ => ⟨b, off, rfl, hb, fun i hi => (hq i (by omega)).1⟩⟩, fun i => ?_⟩
    by_cases hi : i < n
    · exact (hq i hi).2
    · have : ix l i = 0 := by unfold ix; rw [List.getD_eq_getElem?_getD, List.getElem?_eq_none (by omega)]; rfl
      rw [this]; omega
  · obtain rfl : n = 0 := by omega
    exact ⟨_, [], rfl, ⟨a, cap, rfl, h1, h2, by simp, fun h => absurd h (by simp)⟩, fun i => by simp [ix]⟩

theorem open_Bytes8 {cs : List Value} (h : Reads enc Tryz.prog w 28 cs) : ∃ v l, cs = [v] ∧ Bytes8 w v l := by
  obtain ⟨a, n, cap, rfl, h1, h2, h3, h4⟩ := open_slc (sz := 1) (byt := 1) Tryz.underlying28 (by kernel_rfl) (Nat.le_refl _) (by kernel_rfl) h
  by_cases hp : 0 < n
  · obtain ⟨b, off, rfl, hb, hel⟩ := h4 hp
    obtain ⟨l, hl, hq⟩ := list_of (0 : Int) (Q := fun i z => w.cell? ⟨b, off + i, none⟩ = some (.int .i8 z) ∧ -128 ≤ z ∧ z ≤ 127) n (fun i hi => by
      obtain ⟨cs', h5, h6, h7⟩ := hel i hi
      obtain ⟨z, rfl, hz⟩ := open_int1 Tryz.underlying55 h7
      have := h6 0 (by omega)
      simp only [Nat.mul_one, Nat.add_zero, List.getElem?_cons_zero] at this
      exact ⟨z, this, wf_i8 hz⟩)
    refine ⟨_, l, rfl, ⟨_, cap, by rw [hl], by omega, h2, by omega, fun _ => ⟨b, off, rfl, hb, fun i hi => (hq i (by omega)).1⟩⟩, fun i => ?_⟩
    by_cases hi : i < n
    · exact (hq i hi).2
    · have : ix l i = 0 := by unfold ix; rw [List.getD_eq_getElem?_getD, List.getElem?_eq_none (by omega)]; rfl
      rw [this]; omega
  · obtain rfl : n = 0 := by omega
    exact ⟨_, [], rfl, ⟨a, cap, rfl, h1, h2, by simp, fun h => absurd h (by simp)⟩, fun i => by simp [ix]⟩

theorem open_Strs {cs : List Value} (h : Reads enc Tryz.prog w 22 cs) : ∃ v l, cs = [v] ∧ Strs w v l := by
  obtain ⟨a, n, cap, rfl, h1, h2, h3, h4⟩ := open_slc (sz := 1) (byt := 16) Tryz.underlying22 (by kernel_rfl) (Nat.le_refl _) (by kernel_rfl) h
  have hempty : (ixS [] 0).size ≤ 140737488351232 := by decide
  by_cases hp : 0 < n
  · obtain ⟨b, off, rfl, hb, hel⟩ := h4 hp
    obtain ⟨l, hl, hq⟩ := list_of (⟨#[]⟩ : ByteArray) (Q := fun i z => w.cell? ⟨b, off + i, none⟩ = some (.string z) ∧ z.size ≤ 140737488351232) n (fun i hi => by
      obtain ⟨cs', h5, h6, h7⟩ := hel i hi
      obtain ⟨z, rfl, hz⟩ := open_str1 Tryz.underlying9 h7
      have := h6 0 (by omega)
      simp only [Nat.mul_one, Nat.add_zero, List.getElem?_cons_zero] at this
      exact ⟨z, this, hz⟩)
    refine ⟨_, l, rfl, ⟨_, cap, by rw [hl], by omega, h2, by omega, fun _ => ⟨b, off, rfl, hb, fun i hi => (hq i (by omega)).1⟩⟩, fun i => ?_⟩
    by_cases hi : i < n
    · exact (hq i hi).2
    · have : ixS l i = ⟨#[]⟩ := by unfold ixS; rw [List.getD_eq_getElem?_getD, List.getElem?_eq_none (by omega)]; rfl
      rw [this]; exact hempty
  · obtain rfl : n = 0 := by omega
    exact ⟨_, [], rfl, ⟨a, cap, rfl, h1, h2, by simp, fun h => absurd h (by simp)⟩, fun i => by simpa [ixS] using hempty⟩

theorem six {cs : List Value} (h : cs.length = 6) : ∃ a b c d e f, cs = [a, b, c, d, e, f] := by
  match cs, h with
  | [a, b, c, d, e, f], _ => exact ⟨a, b, c, d, e, f, rfl⟩
theorem five {cs : List Value} (h : cs.length = 5) : ∃ a b c d e, cs = [a, b, c, d, e] := by
  match cs, h with
  | [a, b, c, d, e], _ => exact ⟨a, b, c, d, e, rfl⟩
theorem three {cs : List Value} (h : cs.length = 3) : ∃ a b c, cs = [a, b, c] := by
  match cs, h with
  | [a, b, c], _ => exact ⟨a, b, c, rfl⟩

theorem cellsRule : Tryz.prog.cellsOf 54 = 6 := by kernel_rfl
theorem cellsMin : Tryz.prog.cellsOf 83 = 3 := by kernel_rfl
theorem cellsProg : Tryz.prog.cellsOf 27 = 5 := by kernel_rfl
theorem cellsI : Tryz.prog.cellsOf 3 = 1 := by kernel_rfl
theorem cellsB : Tryz.prog.cellsOf 4 = 1 := by kernel_rfl
theorem cellsIs : Tryz.prog.cellsOf 23 = 1 := by kernel_rfl
theorem cellsSs : Tryz.prog.cellsOf 22 = 1 := by kernel_rfl
theorem cellsRs : Tryz.prog.cellsOf 24 = 1 := by kernel_rfl
theorem cellsMs : Tryz.prog.cellsOf 25 = 1 := by kernel_rfl
theorem open_Rule {cs : List Value} (h : Reads enc Tryz.prog w 54 cs) : ∃ (r : GR) (vh vb vw : Value), cs = [.bool r.choice, vh, .bool r.sum, .int .i64 r.bound, vb, vw] ∧ RuleSl w r vh vb vw := by
  have hl := open_len Tryz.underlying54 h
  have f0 := open_at Tryz.underlying54 h 0 4 0 1 rfl cellsB
  have f1 := open_at Tryz.underlying54 h 1 23 1 1 rfl cellsIs
  have f2 := open_at Tryz.underlying54 h 2 4 2 1 rfl cellsB
  have f3 := open_at Tryz.underlying54 h 3 3 3 1 rfl cellsI
  have f4 := open_at Tryz.underlying54 h 4 23 4 1 rfl cellsIs
  have f5 := open_at Tryz.underlying54 h 5 23 5 1 rfl cellsIs
  rw [cellsRule] at hl
  obtain ⟨c0, c1, c2, c3, c4, c5, rfl⟩ := six hl
  simp only [List.drop_succ_cons, List.drop_zero, List.take_succ_cons, List.take_zero] at f0 f1 f2 f3 f4 f5
  obtain ⟨b0, h0⟩ := open_bool1 Tryz.underlying4 f0
  obtain ⟨v1, l1, h1, g1⟩ := open_Ints f1
  obtain ⟨b2, h2⟩ := open_bool1 Tryz.underlying4 f2
  obtain ⟨n3, h3, g3⟩ := open_int1 Tryz.underlying3 f3
  obtain ⟨v4, l4, h4, g4⟩ := open_Ints f4
  obtain ⟨v5, l5, h5, g5⟩ := open_Ints f5
  simp only [List.cons.injEq, and_true] at h0 h1 h2 h3 h4 h5
  subst h0 h1 h2 h3 h4 h5
  exact ⟨⟨b0, l1, b2, n3, l4, l5⟩, _, _, _, rfl, g1, g4, g5, wf_i64 g3⟩

theorem open_Min {cs : List Value} (h : Reads enc Tryz.prog w 83 cs) : ∃ (m : GM) (vl vw : Value), cs = [.int .i64 m.level, vl, vw] ∧ MinSl w m vl vw := by
  have hl := open_len Tryz.underlying83 h
  have f0 := open_at Tryz.underlying83 h 0 3 0 1 rfl cellsI
  have f1 := open_at Tryz.underlying83 h 1 23 1 1 rfl cellsIs
  have f2 := open_at Tryz.underlying83 h 2 23 2 1 rfl cellsIs
  rw [cellsMin] at hl
  obtain ⟨c0, c1, c2, rfl⟩ := three hl
  simp only [List.drop_succ_cons, List.drop_zero, List.take_succ_cons, List.take_zero] at f0 f1 f2
  obtain ⟨n0, h0, g0⟩ := open_int1 Tryz.underlying3 f0
  obtain ⟨v1, l1, h1, g1⟩ := open_Ints f1
  obtain ⟨v2, l2, h2, g2⟩ := open_Ints f2
  simp only [List.cons.injEq, and_true] at h0 h1 h2
  subst h0 h1 h2
  exact ⟨⟨n0, l1, l2⟩, _, _, rfl, g1, g2, wf_i64 g0⟩

theorem open_Rules {cs : List Value} (h : Reads enc Tryz.prog w 24 cs) : ∃ v l, cs = [v] ∧ RulesIs w v l := by
  obtain ⟨a, n, cap, rfl, h1, h2, h3, h4⟩ := open_slc (sz := 6) (byt := 96) Tryz.underlying24 cellsRule (by omega) (by kernel_rfl) h
  by_cases hp : 0 < n
  · obtain ⟨b, off, rfl, hb, hel⟩ := h4 hp
    obtain ⟨l, hl, hq⟩ := list_of ((default : GR), nilS, nilS, nilS) (Q := fun i (q : GR × Value × Value × Value) => (∀ j, j < 6 → w.cell? ⟨b, off + i * 6 + j, none⟩ = some (ruleCell q.1 q.2.1 q.2.2.1 q.2.2.2 j)) ∧ RuleSl w q.1 q.2.1 q.2.2.1 q.2.2.2) n (fun i hi => by
      obtain ⟨cs', h5, h6, h7⟩ := hel i hi
      obtain ⟨r, vh, vb, vw, rfl, hr⟩ := open_Rule h7
      refine ⟨(r, vh, vb, vw), fun j hj => ?_, hr⟩
      rw [h6 j hj]
      rcases (show j = 0 ∨ j = 1 ∨ j = 2 ∨ j = 3 ∨ j = 4 ∨ j = 5 by omega) with rfl | rfl | rfl | rfl | rfl | rfl <;> rfl)
    have hix : ∀ i, i < n → ixR (l.map (·.1)) i = (l.getD i (default, nilS, nilS, nilS)).1 := fun i hi => by
      simp [ixR, List.getD_eq_getElem?_getD, List.getElem?_eq_getElem (show i < l.length by omega)]
    refine ⟨_, l.map (·.1), rfl, fun i => (l.getD i (default, nilS, nilS, nilS)).2.1, fun i => (l.getD i (default, nilS, nilS, nilS)).2.2.1, fun i => (l.getD i (default, nilS, nilS, nilS)).2.2.2,
      ⟨_, cap, by rw [List.length_map, hl], by simp [hl]; omega, h2, by simp [hl]; omega, fun _ => ⟨b, off, rfl, hb, fun i hi j hj => ?_⟩⟩, fun i hi => ?_⟩
    · simp only [List.length_map, hl] at hi
      dsimp only
      rw [hix i hi]
      exact (hq i hi).1 j hj
    · simp only [List.length_map, hl] at hi
      rw [hix i hi]
      exact (hq i hi).2
  · obtain rfl : n = 0 := by omega
    exact ⟨_, [], rfl, fun _ => nilS, fun _ => nilS, fun _ => nilS, ⟨a, cap, rfl, h1, h2, by simp, fun h => absurd h (by simp)⟩, fun i hi => absurd hi (by simp)⟩

theorem open_Mins {cs : List Value} (h : Reads enc Tryz.prog w 25 cs) : ∃ v l, cs = [v] ∧ MinsIs w v l := by
  obtain ⟨a, n, cap, rfl, h1, h2, h3, h4⟩ := open_slc (sz := 3) (byt := 56) Tryz.underlying25 cellsMin (by omega) (by kernel_rfl) h
  by_cases hp : 0 < n
  · obtain ⟨b, off, rfl, hb, hel⟩ := h4 hp
    obtain ⟨l, hl, hq⟩ := list_of ((default : GM), nilS, nilS) (Q := fun i (q : GM × Value × Value) => (∀ j, j < 3 → w.cell? ⟨b, off + i * 3 + j, none⟩ = some (minCell q.1 q.2.1 q.2.2 j)) ∧ MinSl w q.1 q.2.1 q.2.2) n (fun i hi => by
      obtain ⟨cs', h5, h6, h7⟩ := hel i hi
      obtain ⟨r, vl, vw, rfl, hr⟩ := open_Min h7
      refine ⟨(r, vl, vw), fun j hj => ?_, hr⟩
      rw [h6 j hj]
      rcases (show j = 0 ∨ j = 1 ∨ j = 2 by omega) with rfl | rfl | rfl <;> rfl)
    have hix : ∀ i, i < n → ixM (l.map (·.1)) i = (l.getD i (default, nilS, nilS)).1 := fun i hi => by
      simp [ixM, List.getD_eq_getElem?_getD, List.getElem?_eq_getElem (show i < l.length by omega)]
    refine ⟨_, l.map (·.1), rfl, fun i => (l.getD i (default, nilS, nilS)).2.1, fun i => (l.getD i (default, nilS, nilS)).2.2,
      ⟨_, cap, by rw [List.length_map, hl], by simp [hl]; omega, h2, by simp [hl]; omega, fun _ => ⟨b, off, rfl, hb, fun i hi j hj => ?_⟩⟩, fun i hi => ?_⟩
    · simp only [List.length_map, hl] at hi
      dsimp only
      rw [hix i hi]
      exact (hq i hi).1 j hj
    · simp only [List.length_map, hl] at hi
      rw [hix i hi]
      exact (hq i hi).2
  · obtain rfl : n = 0 := by omega
    exact ⟨_, [], rfl, fun _ => nilS, fun _ => nilS, ⟨a, cap, rfl, h1, h2, by simp, fun h => absurd h (by simp)⟩, fun i hi => absurd hi (by simp)⟩

theorem open_Prog {cs : List Value} (h : Reads enc Tryz.prog w 27 cs) : ∃ (p : GP) (vn vs vr vm : Value), cs = [.int .i64 p.n, vn, vs, vr, vm] ∧ ProgSl w p vn vs vr vm := by
  have hl := open_len Tryz.underlying27 h
  have f0 := open_at Tryz.underlying27 h 0 3 0 1 rfl cellsI
  have f1 := open_at Tryz.underlying27 h 1 22 1 1 rfl cellsSs
  have f2 := open_at Tryz.underlying27 h 2 23 2 1 rfl cellsIs
  have f3 := open_at Tryz.underlying27 h 3 24 3 1 rfl cellsRs
  have f4 := open_at Tryz.underlying27 h 4 25 4 1 rfl cellsMs
  rw [cellsProg] at hl
  obtain ⟨c0, c1, c2, c3, c4, rfl⟩ := five hl
  simp only [List.drop_succ_cons, List.drop_zero, List.take_succ_cons, List.take_zero] at f0 f1 f2 f3 f4
  obtain ⟨n0, h0, g0⟩ := open_int1 Tryz.underlying3 f0
  obtain ⟨v1, l1, h1, g1⟩ := open_Strs f1
  obtain ⟨v2, l2, h2, g2⟩ := open_Ints f2
  obtain ⟨v3, l3, h3, g3⟩ := open_Rules f3
  obtain ⟨v4, l4, h4, g4⟩ := open_Mins f4
  simp only [List.cons.injEq, and_true] at h0 h1 h2 h3 h4
  subst h0 h1 h2 h3 h4
  exact ⟨⟨n0, l1, l2, l3, l4⟩, _, _, _, _, rfl, wf_i64 g0, g1, g2, g3, g4⟩

end

end Go.Proofs.YtfhpfbakoiekpaaGreatDoor

/- ostlerlaw27.LoopsTells returns true and writes nothing that was there. -/
namespace Go.Proofs.YtfhpfbakoiekpaaGreatDoor
open Go.RowKit

/-- What the law leans on. -/
structure LtSt (w : World) (cp cc : List Value) (vp va vS vl vk : Value) (p : GP) (a S : List Int) (c : PBC) (W : World) : Prop where
  pbx : Blk W w.heap.size cp 27
  cbx : Blk W (w.heap.size + 1) cc 30
  prog : ProgIs W vp p
  asg : Bytes8 W va a
  set : Ints W vS S
  is : PBIs W (.agg #[vl, vk, .int .i64 c.bound]) c
  below : Below w.heap.size w W
theorem LtSt.on {w : World} {cp cc : List Value} {vp va vS vl vk : Value} {p : GP} {a S : List Int} {c : PBC} {W W' : World} (h : LtSt w cp cc vp va vS vl vk p a S c W) (hb : Below W.heap.size W W') : LtSt w cp cc vp va vS vl vk p a S c W' :=
  ⟨h.pbx.below hb, h.cbx.below hb, h.prog.below hb, h.asg.below hb, h.set.below hb, h.is.below hb, bon h.below hb⟩

/-- What the calls of the last comparison leave. -/
def lt27Φ (ub vb : Bool) (i : Nat) (_ : List Value) (v : Value) (_ _ : Nat) (_ : World) : Prop :=
  match i with
  | 3 => v = .bool ub
  | 7 => v = .bool ub
  | 13 => v = .bool vb
  | 17 => v = .bool vb
  | _ => v = .bool true
theorem lt27Φ_later (ub vb : Bool) : ∀ i args v lo hi w w', lt27Φ ub vb i args v lo hi w → Below w.heap.size w w' → lt27Φ ub vb i args v lo hi w' := by
  intro i args v lo hi w w' h _
  unfold lt27Φ at *
  split at h <;> exact h

theorem few_body {p : GP} (h : fewB p = true) : (∀ i, i < p.rules.length → (ixR p.rules i).body.length ≤ 20) ∧ p.rules.length ≤ 12 := by
  unfold fewB at h
  simp only [Bool.and_eq_true, decide_eq_true_eq] at h
  refine ⟨fun i hi => ?_, h.1.2⟩
  have := allR_get h.2 i hi
  unfold fewAt at this
  simp only [Bool.and_eq_true, decide_eq_true_eq] at this
  exact this.1.2

set_option maxHeartbeats 8000000 in
set_option maxRecDepth 100000 in
theorem lt27_walk (vp va vset vc : Value) (p : GP) (a S : List Int) (c : PBC) (u : Int) (w : World) (hP : ProgIs w vp p) (hA : Bytes8 w va a) (hM : Ints w vset S) (hC : PBIs w vc c) (hu : InI u) :
    Calls Tryz.prog 3 #[vp, va, vset, vc, .int .i64 u] w fun e w' => e = .returned (.bool true) ∧ Below w.heap.size w w' := by
  have h0 := hP
  have hc0 := hC
  obtain ⟨vn, vs, vr, vmn, rfl, hPS⟩ := hP
  obtain ⟨a1, c1, rfl, -, hl1, -, -⟩ := hPS.rules.form
  obtain ⟨a2, n2, c2, rfl⟩ : ∃ x n c, va = .slice x n c := by
    obtain ⟨⟨x, c, rfl, -⟩, -⟩ := hA
    exact ⟨_, _, _, rfl⟩
  obtain ⟨a3, c3, rfl, -, hl3, -, -⟩ := hM.form
  obtain ⟨vl, vk, rfl, hl, hk, hbd⟩ := hC
  obtain ⟨a4, c4, rfl, -, hl4, -, -⟩ := hl.form
  obtain ⟨a5, c5, rfl, -, hl5, -, -⟩ := hk.form
  have hal := bal (bal (Below.refl w.heap.size w) (.cells #[.int .i64 p.n, vn, vs, .slice a1 p.rules.length c1, vmn] 27)) (.cells #[.slice a4 c.lits.length c4, .slice a5 c.coefs.length c5, .int .i64 c.bound] 30)
  have hst : LtSt w [.int .i64 p.n, vn, vs, .slice a1 p.rules.length c1, vmn] [.slice a4 c.lits.length c4, .slice a5 c.coefs.length c5, .int .i64 c.bound] (.agg #[.int .i64 p.n, vn, vs, .slice a1 p.rules.length c1, vmn]) (.slice a2 n2 c2) (.slice a3 S.length c3) (.slice a4 c.lits.length c4) (.slice a5 c.coefs.length c5) p a S c ((w.alloc (.cells #[.int .i64 p.n, vn, vs, .slice a1 p.rules.length c1, vmn] 27)).alloc (.cells #[.slice a4 c.lits.length c4, .slice a5 c.coefs.length c5, .int .i64 c.bound] 30)) :=
    ⟨(Blk.new w [.int .i64 p.n, vn, vs, .slice a1 p.rules.length c1, vmn] _).alloc _, Blk.new2 w _ [.slice a4 c.lits.length c4, .slice a5 c.coefs.length c5, .int .i64 c.bound] _, h0.below hal, hA.below hal, hM.below hal, hc0.below hal, hal⟩
  have HS0 := Lib.hid hst
  have kp0 := hst.pbx.cell
  have kc0 := hst.cbx.cell
  have zp0 := hst.pbx.lt
  have zc0 := hst.cbx.lt
  have HU := Lib.hid hu
  clear h0 hc0 hPS hA hM hl hk hal hst hu hbd
  go_enter Tryz.func3, Tryz.ntmps3
  go_upto_region 1 with fail
  generalize (w.alloc (.cells #[.int .i64 p.n, vn, vs, .slice a1 p.rules.length c1, vmn] 27)).alloc (.cells #[.slice a4 c.lits.length c4, .slice a5 c.coefs.length c5, .int .i64 c.bound] 30) = W0 at *
  cases hfw : fewB p with
  | false =>
    have HFW := Lib.hid hfw
    clear hfw
    go_wp2_with (first | (go_at_call 5; (with_reducible refine (few_any _ p _ HS0.out.prog).mono ?_); rintro e w1 ⟨h1, hb1⟩; rw [HFW.out] at h1; subst h1; have HS1 := Lib.hid (HS0.out.on hb1); have kp1 := HS1.out.pbx.cell; have kc1 := HS1.out.cbx.cell; have zp1 := HS1.out.pbx.lt; have zc1 := HS1.out.cbx.lt; clear hb1) | (go_at_call 6; (with_reducible refine (awake27_any _).mono ?_); rintro e w9 ⟨rfl, hb9⟩; have HS9 := Lib.hid (HS1.out.on hb9); have kp9 := HS9.out.pbx.cell; have kc9 := HS9.out.cbx.cell; have zp9 := HS9.out.pbx.lt; have zc9 := HS9.out.cbx.lt; clear hb9))
    go_ret
    exact ⟨rfl, HS9.out.below⟩
  | true =>
    have HFW := Lib.hid hfw
    have HFB := Lib.hid (few_body hfw)
    clear hfw
    by_cases g1 : S.length ≤ 12
    case neg =>
      go_wp2_with (first | (go_at_call 5; (with_reducible refine (few_any _ p _ HS0.out.prog).mono ?_); rintro e w1 ⟨h1, hb1⟩; rw [HFW.out] at h1; subst h1; have HS1 := Lib.hid (HS0.out.on hb1); have kp1 := HS1.out.pbx.cell; have kc1 := HS1.out.cbx.cell; have zp1 := HS1.out.pbx.lt; have zc1 := HS1.out.cbx.lt; clear hb1) | (go_at_call 6; (with_reducible refine (awake27_any _).mono ?_); rintro e w9 ⟨rfl, hb9⟩; have HS9 := Lib.hid (HS1.out.on hb9); have kp9 := HS9.out.pbx.cell; have kc9 := HS9.out.cbx.cell; have zp9 := HS9.out.pbx.lt; have zc9 := HS9.out.cbx.lt; clear hb9))
      go_ret
      exact ⟨rfl, HS9.out.below⟩
    by_cases g2 : c.lits.length ≤ 40
    case neg =>
      go_wp2_with (first | (go_at_call 5; (with_reducible refine (few_any _ p _ HS0.out.prog).mono ?_); rintro e w1 ⟨h1, hb1⟩; rw [HFW.out] at h1; subst h1; have HS1 := Lib.hid (HS0.out.on hb1); have kp1 := HS1.out.pbx.cell; have kc1 := HS1.out.cbx.cell; have zp1 := HS1.out.pbx.lt; have zc1 := HS1.out.cbx.lt; clear hb1) | (go_at_call 6; (with_reducible refine (awake27_any _).mono ?_); rintro e w9 ⟨rfl, hb9⟩; have HS9 := Lib.hid (HS1.out.on hb9); have kp9 := HS9.out.pbx.cell; have kc9 := HS9.out.cbx.cell; have zp9 := HS9.out.pbx.lt; have zc9 := HS9.out.cbx.lt; clear hb9))
      go_ret
      exact ⟨rfl, HS9.out.below⟩
    by_cases g3 : c.coefs.length ≤ 40
    case neg =>
      go_wp2_with (first | (go_at_call 5; (with_reducible refine (few_any _ p _ HS0.out.prog).mono ?_); rintro e w1 ⟨h1, hb1⟩; rw [HFW.out] at h1; subst h1; have HS1 := Lib.hid (HS0.out.on hb1); have kp1 := HS1.out.pbx.cell; have kc1 := HS1.out.cbx.cell; have zp1 := HS1.out.pbx.lt; have zc1 := HS1.out.cbx.lt; clear hb1) | (go_at_call 6; (with_reducible refine (awake27_any _).mono ?_); rintro e w9 ⟨rfl, hb9⟩; have HS9 := Lib.hid (HS1.out.on hb9); have kp9 := HS9.out.pbx.cell; have kc9 := HS9.out.cbx.cell; have zp9 := HS9.out.pbx.lt; have zc9 := HS9.out.cbx.lt; clear hb9))
      go_ret
      exact ⟨rfl, HS9.out.below⟩
    obtain ⟨⟨m, E⟩, hm⟩ : ∃ M, makeP p a S u = M := ⟨_, rfl⟩
    have HM := Lib.hid hm
    have HMR : Hid (makeR p a S u = (m, E)) := Lib.hid ((makeR_is p a S u).trans hm)
    clear hm
    go_upto_region 4 with (first
      | (go_at_call 5; (with_reducible refine (few_any _ p _ HS0.out.prog).mono ?_); rintro e w1 ⟨h1, hb1⟩; rw [HFW.out] at h1; subst h1; have HS1 := Lib.hid (HS0.out.on hb1); have kp1 := HS1.out.pbx.cell; have kc1 := HS1.out.cbx.cell; have zp1 := HS1.out.pbx.lt; have zc1 := HS1.out.cbx.lt; clear hb1)
      | (go_at_call 7; (with_reducible refine (make_any _ _ _ p a S u _ HS1.out.prog HS1.out.asg HS1.out.set HU.out).mono ?_); rintro e w2 ⟨vx, e2, hq, hb2⟩; rw [HM.out] at e2 hq; dsimp only at e2 hq; obtain ⟨ul, uk, rfl, hq1, hq2, hq3⟩ := hq; obtain ⟨x1, y1, rfl⟩ := hq1.slen; obtain ⟨x2, y2, rfl⟩ := hq2.slen; subst e2; have hal2 := bal (Below.refl w2.heap.size w2) (.cells #[.slice x1 m.lits.length y1, .slice x2 m.coefs.length y2, .int .i64 m.bound] 30); have hb2 := bon hb2 hal2; have HX := Lib.hid (Blk.new w2 [.slice x1 m.lits.length y1, .slice x2 m.coefs.length y2, .int .i64 m.bound] 30); have HXI := Lib.hid ((PBQ.is ⟨_, _, rfl, hq1, hq2, hq3⟩).below hal2); have HS2 := Lib.hid (HS1.out.on hb2); have kp2 := HS2.out.pbx.cell; have kc2 := HS2.out.cbx.cell; have zp2 := HS2.out.pbx.lt; have zc2 := HS2.out.cbx.lt; clear hb2; clear hq1 hq2 hq3 hal2))
    generalize hw3 : w2.alloc (.cells #[.slice x1 m.lits.length y1, .slice x2 m.coefs.length y2, .int .i64 m.bound] 30) = w3 at *
    clear hw3
    generalize w2.heap.size = bx at *
    have hzx := HX.out.lt
    clear kp0 kc0 zp0 zc0 kp1 kc1 zp1 zc1
    go_upto_region 5 with (go_at_call 8; (with_reducible refine (rmake_any _ _ _ p a S u _ HS2.out.prog HS2.out.asg HS2.out.set HFB.out.1 HFB.out.2).mono ?_); rintro e w4 ⟨vx, e4, hq, hb4⟩; rw [HMR.out] at e4 hq; dsimp only at e4 hq; obtain ⟨ul, uk, rfl, hq1, hq2, hq3⟩ := hq; obtain ⟨x3, y3, rfl⟩ := hq1.slen; obtain ⟨x4, y4, rfl⟩ := hq2.slen; subst e4; have hal4 := bal (Below.refl w4.heap.size w4) (.cells #[.slice x3 m.lits.length y3, .slice x4 m.coefs.length y4, .int .i64 m.bound] 30); have hb4 := bon hb4 hal4; have HY := Lib.hid (Blk.new w4 [.slice x3 m.lits.length y3, .slice x4 m.coefs.length y4, .int .i64 m.bound] 30); have HYI := Lib.hid ((PBQ.is ⟨_, _, rfl, hq1, hq2, hq3⟩).below hal4); have HX4 := Lib.hid (HX.out.below hb4); have HXI4 := Lib.hid (HXI.out.below hb4); have HS4 := Lib.hid (HS2.out.on hb4); have kp4 := HS4.out.pbx.cell; have kc4 := HS4.out.cbx.cell; have zp4 := HS4.out.pbx.lt; have zc4 := HS4.out.cbx.lt; clear hb4; clear hq1 hq2 hq3 hal4)
    generalize hw5 : w4.alloc (.cells #[.slice x3 m.lits.length y3, .slice x4 m.coefs.length y4, .int .i64 m.bound] 30) = w5 at *
    clear hw5
    generalize w4.heap.size = bz at *
    have zx := HX4.out.lt
    have zy := HY.out.lt
    have kx4 := HX4.out.cell
    have ky4 := HY.out.cell
    have ep : ∀ e : Ext w5, ∀ o, e.world.cell? ⟨w.heap.size, o, none⟩ = _ := fun e o => (bcell e.below _ o zp4).trans (HS4.out.pbx.cell o)
    have ec : ∀ e : Ext w5, ∀ o, e.world.cell? ⟨w.heap.size + 1, o, none⟩ = _ := fun e o => (bcell e.below _ o zc4).trans (HS4.out.cbx.cell o)
    have ex : ∀ e : Ext w5, ∀ o, e.world.cell? ⟨bx, o, none⟩ = _ := fun e o => (bcell e.below _ o zx).trans (HX4.out.cell o)
    have ey : ∀ e : Ext w5, ∀ o, e.world.cell? ⟨bz, o, none⟩ = _ := fun e o => (bcell e.below _ o zy).trans (HY.out.cell o)
    obtain ⟨ub, hub⟩ : ∃ q, unfB p a S = q := ⟨_, rfl⟩
    obtain ⟨vb, hvb⟩ : ∃ q, validC p S c = q := ⟨_, rfl⟩
    have HUB := Lib.hid hub
    have HVB := Lib.hid hvb
    have huu : (ub == ub) = true := by simp
    have hvv : (vb == vb) = true := by simp
    have hEE : (E == E) = true := by simp
    clear hub hvb kp2 kc2 zp2 zc2
    refine wp_region_perm' (lt27Φ ub vb) (fun i => i == 3 || i == 7 || i == 13 || i == 17 || i == 28 || i == 31) (by kernel_rfl) (by kernel_rfl) (by kernel_rfl) (lt27Φ_later _ _) ?_
    iterate 3 (refine walkP_calm rfl rfl rfl (fun K hK => ?_); go_big_quiet_op; refine hK _ ?_; clear hK K)
    refine walkP_mem rfl rfl (fun wa hba hFa => ?_) (fun v lo hi l g h => ?_)
    · go_simp
      exact (unfounded_any _ _ _ p a S _ (HS4.out.prog.below hba) (HS4.out.asg.below hba) (HS4.out.set.below hba)).mono (fun e w2 ⟨h1, h2⟩ => ⟨_, h1.trans (by rw [HUB.out]), h2, rfl⟩)
    obtain ⟨_, rfl⟩ := h
    simp only [Act.put, List.setIfInBounds_toArray, List.set_cons_succ, List.set_cons_zero]
    iterate 3 (refine walkP_calm rfl rfl rfl (fun K hK => ?_); go_big_quiet_op; refine hK _ ?_; clear hK K)
    refine walkP_mem rfl rfl (fun wa hba hFa => ?_) (fun v lo hi l g h => ?_)
    · go_simp
      exact (runf_any _ _ _ p a S _ (HS4.out.prog.below hba) (HS4.out.asg.below hba) (HS4.out.set.below hba)).mono (fun e w2 ⟨h1, h2⟩ => ⟨_, h1.trans (by rw [unfR_is, HUB.out]), h2, rfl⟩)
    obtain ⟨_, rfl⟩ := h
    simp only [Act.put, List.setIfInBounds_toArray, List.set_cons_succ, List.set_cons_zero]
    iterate 5 (refine walkP_calm rfl rfl rfl (fun K hK => ?_); go_big_quiet_op; refine hK _ ?_; clear hK K)
    refine walkP_mem rfl rfl (fun wa hba hFa => ?_) (fun v lo hi l g h => ?_)
    · go_simp
      exact (lval_any _ _ _ p S c _ (HS4.out.prog.below hba) (HS4.out.set.below hba) (HS4.out.is.below hba)).mono (fun e w2 ⟨h1, h2⟩ => ⟨_, h1.trans (by rw [HVB.out]), h2, rfl⟩)
    obtain ⟨_, rfl⟩ := h
    simp only [Act.put, List.setIfInBounds_toArray, List.set_cons_succ, List.set_cons_zero]
    iterate 3 (refine walkP_calm rfl rfl rfl (fun K hK => ?_); go_big_quiet_op; refine hK _ ?_; clear hK K)
    refine walkP_mem rfl rfl (fun wa hba hFa => ?_) (fun v lo hi l g h => ?_)
    · go_simp
      exact (rvld27_any _ _ _ p S c _ (HS4.out.prog.below hba) (HS4.out.set.below hba) (HS4.out.is.below hba)).mono (fun e w2 ⟨h1, h2⟩ => ⟨_, h1.trans (by rw [validR_is, HVB.out]), h2, rfl⟩)
    obtain ⟨_, rfl⟩ := h
    simp only [Act.put, List.setIfInBounds_toArray, List.set_cons_succ, List.set_cons_zero]
    iterate 10 (refine walkP_calm rfl rfl rfl (fun K hK => ?_); go_big_quiet_op; refine hK _ ?_; clear hK K)
    refine walkP_mem rfl rfl (fun wa hba hFa => ?_) (fun v lo hi l g h => ?_)
    · go_simp
      exact (requal_any _ _ m m _ (HXI4.out.below hba) (HYI.out.below hba)).mono (fun e w2 ⟨h1, h2⟩ => ⟨_, h1.trans (by simp), h2, rfl⟩)
    obtain ⟨_, rfl⟩ := h
    simp only [Act.put, List.setIfInBounds_toArray, List.set_cons_succ, List.set_cons_zero]
    iterate 2 (refine walkP_calm rfl rfl rfl (fun K hK => ?_); go_big_quiet_op; refine hK _ ?_; clear hK K)
    refine walkP_mem rfl rfl (fun wa hba hFa => ?_) (fun v lo hi l g h => ?_)
    · go_simp
      exact (awake27_any _).mono (fun e w2 ⟨h1, h2⟩ => ⟨_, h1, h2, rfl⟩)
    obtain ⟨_, rfl⟩ := h
    simp only [Act.put, List.setIfInBounds_toArray, List.set_cons_succ, List.set_cons_zero]
    iterate 2 (refine walkP_calm rfl rfl rfl (fun K hK => ?_); go_big_quiet_op; refine hK _ ?_; clear hK K)
    intro wx hbx hF hI hP
    have HBX := Lib.hid hbx
    clear hF hI hP hbx
    go_wp2_with fail
    go_ret
    exact ⟨rfl, (HS4.out.on HBX.out).below⟩

theorem tells27_law {W : World} {vp va vset vc : Value} {p : GP} {a S : List Int} {c : PBC} (hP : ProgIs W vp p) (hA : Bytes8 W va a) (hS : Ints W vset S) (hC : PBIs W vc c) (x : Int) (hw : (Lit.int .i64 x).wf = true) :
    Calls Tryz.prog 3 #[vp, va, vset, vc, .int .i64 x] W fun e w' => e = .returned (.bool true) ∧ Below W.heap.size W w' :=
  lt27_walk vp va vset vc p a S c x W hP hA hS hC (by unfold InI; exact wf_i64 hw)

end Go.Proofs.YtfhpfbakoiekpaaGreatDoor

/- The arguments of a statement, opened. -/
namespace Go.Proofs.YtfhpfbakoiekpaaGreatDoor
open Go.RowKit Go.WideShapes

section
variable {H : Type} {enc : TypeId × Value → H} {w : World} {r : Reach} {b0 : Nat} {v : Value} {d : DataW H} {q : List MemPlace}

theorem arg_reads {P : Program} {t : TypeId} (h : DataW.Trod enc P w 0 (fun _ => true) true t v d q) (hw : ∀ m ∈ d.weights P t, m ≤ reachBytes) : Reads enc P w t v.cells.toList := by
  obtain ⟨fuel, hf⟩ := h
  exact ⟨fuel, _, hf, hw⟩

set_option maxRecDepth 100000 in
theorem arg_Prog (hv : Value.okWide Tryz.prog w r b0 27 v) (h : DataW.Trod enc Tryz.prog w 0 (fun _ => true) true 27 v d q) (hw : ∀ m ∈ d.weights Tryz.prog 27, m ≤ reachBytes) : ∃ p, ProgIs w v p := by
  obtain ⟨cs, rfl, -⟩ := okWide_struct Tryz.underlying27 hv
  have hr := arg_reads h hw
  obtain ⟨p, vn, vs, vr, vm, he, hp⟩ := open_Prog hr
  refine ⟨p, vn, vs, vr, vm, ?_, hp⟩
  have : cs.toList = [.int .i64 p.n, vn, vs, vr, vm] := by simpa [Value.cells] using he
  congr 1
  exact Array.toList_inj.1 this

set_option maxRecDepth 100000 in
theorem arg_Bytes8 (hv : Value.okWide Tryz.prog w r b0 28 v) (h : DataW.Trod enc Tryz.prog w 0 (fun _ => true) true 28 v d q) (hw : ∀ m ∈ d.weights Tryz.prog 28, m ≤ reachBytes) : ∃ l, Bytes8 w v l := by
  obtain ⟨a, n, c, rfl⟩ := okWide_slice Tryz.underlying28 hv
  have hr := arg_reads h hw
  obtain ⟨v', l, he, hp⟩ := open_Bytes8 hr
  have : Value.slice a n c = v' := by simpa [Value.cells] using he
  subst this
  exact ⟨l, hp⟩
end

end Go.Proofs.YtfhpfbakoiekpaaGreatDoor

/- More arguments of a statement, opened: a list of ints, a constraint. -/
namespace Go.Proofs.YtfhpfbakoiekpaaGreatDoor
open Go.RowKit Go.WideShapes

theorem cellsPB : Tryz.prog.cellsOf 30 = 3 := by kernel_rfl

section
variable {H : Type} {enc : TypeId × Value → H} {w : World} {r : Reach} {b0 : Nat} {v : Value} {d : DataW H} {q : List MemPlace}

theorem open_PB {cs : List Value} (h : Reads enc Tryz.prog w 30 cs) : ∃ (m : PBC) (vl vk : Value), cs = [vl, vk, .int .i64 m.bound] ∧ Ints w vl m.lits ∧ Ints w vk m.coefs ∧ InI m.bound := by
  have hl := open_len Tryz.underlying30 h
  have f0 := open_at Tryz.underlying30 h 0 23 0 1 rfl cellsIs
  have f1 := open_at Tryz.underlying30 h 1 23 1 1 rfl cellsIs
  have f2 := open_at Tryz.underlying30 h 2 3 2 1 rfl cellsI
  rw [cellsPB] at hl
  obtain ⟨c0, c1, c2, rfl⟩ := three hl
  simp only [List.drop_succ_cons, List.drop_zero, List.take_succ_cons, List.take_zero] at f0 f1 f2
  obtain ⟨v0, l0, h0, g0⟩ := open_Ints f0
  obtain ⟨v1, l1, h1, g1⟩ := open_Ints f1
  obtain ⟨n2, h2, g2⟩ := open_int1 Tryz.underlying3 f2
  simp only [List.cons.injEq, and_true] at h0 h1 h2
  subst h0 h1 h2
  exact ⟨⟨l0, l1, n2⟩, _, _, rfl, g0, g1, wf_i64 g2⟩

set_option maxRecDepth 100000 in
theorem arg_PB (hv : Value.okWide Tryz.prog w r b0 30 v) (h : DataW.Trod enc Tryz.prog w 0 (fun _ => true) true 30 v d q) (hw : ∀ m ∈ d.weights Tryz.prog 30, m ≤ reachBytes) : ∃ c, PBIs w v c := by
  obtain ⟨cs, rfl, -⟩ := okWide_struct Tryz.underlying30 hv
  have hr := arg_reads h hw
  obtain ⟨m, vl, vk, he, h1, h2, h3⟩ := open_PB hr
  refine ⟨m, vl, vk, ?_, h1, h2, h3⟩
  have : cs.toList = [vl, vk, .int .i64 m.bound] := by simpa [Value.cells] using he
  congr 1
  exact Array.toList_inj.1 this

set_option maxRecDepth 100000 in
theorem arg_Ints (hv : Value.okWide Tryz.prog w r b0 23 v) (h : DataW.Trod enc Tryz.prog w 0 (fun _ => true) true 23 v d q) (hw : ∀ m ∈ d.weights Tryz.prog 23, m ≤ reachBytes) : ∃ l, Ints w v l := by
  obtain ⟨a, n, c, rfl⟩ := okWide_slice Tryz.underlying23 hv
  have hr := arg_reads h hw
  obtain ⟨v', l, he, hp⟩ := open_Ints hr
  have : Value.slice a n c = v' := by simpa [Value.cells] using he
  subst this
  exact ⟨l, hp⟩
end

end Go.Proofs.YtfhpfbakoiekpaaGreatDoor
