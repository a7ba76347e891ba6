/- ostlerlaw33.SourceHistory: the copy of the rules. -/
import Derived.Test.YtkjpnpkmnpofgaaHist1Q
import Derived.Test.YtkjpnpkmnpofgaaFindWQ
namespace Go.Proofs.Ytkjpnpkmnpofgaa
open Go.RowKit
attribute [local go_sem] memUpon


/-- What the operations of the copy leave. -/
def copyΦ (base : Nat) (r : GR) : Nat → List Value → Value → Nat → Nat → World → Prop
  | 3, _, v, _, _, w => ∃ a c, v = .slice a r.head.length c ∧ QRow base w v r.head
  | 7, _, v, _, _, w => ∃ a c, v = .slice a r.body.length c ∧ QRow base w v r.body
  | 11, _, v, _, _, w => ∃ a c, v = .slice a r.w.length c ∧ QRow base w v r.w
  | _, _, v, lo, hi, w => v = .slice (some ⟨lo, 0, none⟩) 0 0 ∧ lo < hi ∧ w.heap[lo]? = some (.cells #[] 3 (0, 0))

theorem copyΦ_later (base : Nat) (r : GR) : ∀ i args v lo hi w w', copyΦ base r i args v lo hi w → Below w.heap.size w w' → copyΦ base r i args v lo hi w' := by
  intro i args v lo hi w w' h hb
  unfold copyΦ at *
  split at h
  · obtain ⟨a, c, e, h⟩ := h; exact ⟨a, c, e, h.below hb⟩
  · obtain ⟨a, c, e, h⟩ := h; exact ⟨a, c, e, h.below hb⟩
  · obtain ⟨a, c, e, h⟩ := h; exact ⟨a, c, e, h.below hb⟩
  · obtain ⟨e, hl, h⟩ := h; exact ⟨e, hl, (hb.block _ (Array.getElem?_eq_some_iff.1 h).1).trans h⟩

/-- The copy under way: mine's box in block mb. -/
def HR1 (p : GP) (W0 : World) (mb : Nat) (vn vs vm : Value) (i : Value) (wx : World) : Prop :=
  ∃ k : Nat, k ≤ p.rules.length ∧ i = .int .i64 k ∧ ∃ ar nr cr L, Blk wx mb [.int .i64 p.n, vn, vs, .slice ar nr cr, vm] 27 ∧ Mine (mb + 1) (.slice ar nr cr) L wx ∧ L.map (·.1) = p.rules.take k ∧ Below W0.heap.size W0 wx

/-- Writing into mine: its box in block mb. -/
structure HMSt (p : GP) (W0 : World) (mb : Nat) (s : SP) (ar : Option Addr) (L : List RQ) (c : List Value) (wx : World) : Prop where
  mw : MW (mb + 1) s.H ar L.length L wx
  box : Blk wx mb c 27
  below : Below W0.heap.size W0 wx
  core : Core s p (fun _ => 0) (fun _ => 0) 0 wx

theorem HMSt.setBody {p : GP} {W0 : World} {mb : Nat} {s : SP} {ar : Option Addr} {L : List RQ} {c : List Value} {wx : World} (h : HMSt p W0 mb s ar L c wx) (hm : W0.heap.size ≤ mb) {g : Nat} {d : List Value} (hg : Blk wx g d 3) (h1 : mb + 1 ≤ g) (h2 : g < s.H) (o : Nat) (u : Value) :
    HMSt p W0 mb s ar L c (wx.setCell ⟨g, o, none⟩ u) :=
  ⟨h.mw.setBody hg o u, h.box.setOther o u (by omega), h.below.setCell (by show W0.heap.size ≤ g; omega) _, h.core.keep (by simp [World.setCell]) (fun i i1 i2 => Below.heap_setCell _ _ _ _ (show i ≠ g by omega))⟩

theorem HMSt.setBound {p : GP} {W0 : World} {mb : Nat} {s : SP} {L : List RQ} {c : List Value} {wx : World} {b off k : Nat} (h : HMSt p W0 mb s (some ⟨b, off, none⟩) L c wx) (hm : W0.heap.size ≤ mb) (h1 : mb + 1 ≤ b) (h2 : b < s.H) (hk : k < L.length) (x : Int) :
    HMSt p W0 mb s (some ⟨b, off, none⟩) L c (wx.setCell ⟨b, off + k * 6 + 3, none⟩ (.int .i64 x)) :=
  ⟨h.mw.setBound rfl hk x, h.box.setOther _ _ (by omega), h.below.setCell (by show W0.heap.size ≤ b; omega) _, h.core.keep (by simp [World.setCell]) (fun i i1 i2 => Below.heap_setCell _ _ _ _ (show i ≠ b by omega))⟩

def HR2 (p : GP) (W0 : World) (mb : Nat) (s : SP) (ar : Option Addr) (L : List RQ) (c : List Value) (n : Nat) (i : Value) (wx : World) : Prop :=
  ∃ k : Nat, k ≤ n ∧ i = .int .i64 k ∧ HMSt p W0 mb s ar L c wx

/-- The last loop. -/
def HR4 (s : SP) (p : GP) (W0 : World) (m : Nat) (i : Value) (wx : World) : Prop :=
  ∃ k : Nat, k ≤ m ∧ i = .int .i64 k ∧ ∃ F K clk, Core s p F K clk wx ∧ SInv p F K clk ∧ clk ≤ 4000 * k ∧ Below W0.heap.size W0 wx

set_option maxHeartbeats 4000000 in
set_option maxRecDepth 100000 in
theorem hist_walk (v vl : Value) (p : GP) (ls : List (List Int)) (w : World) (h : ProgIs w v p) (hl : Rows8 w vl ls) :
    Calls Try.prog 5 #[v, vl] w fun e w' => e = .returned (.bool true) ∧ Below w.heap.size w w' := by
  have h0 := h
  obtain ⟨vn, vs, vr, vm, rfl, hn, hnames, hshown, hrules, hmin⟩ := h
  obtain ⟨a0, c0, rfl, -, hl0, -⟩ := hnames.form
  obtain ⟨a1, c1, rfl, -, hl1, -, hcellR⟩ := hrules.form
  obtain ⟨al, cl, rfl, hcl1, hcl2, hln⟩ := hl.form
  obtain ⟨a3, c3, rfl, -⟩ := hshown.form
  obtain ⟨a4, c4, rfl, -⟩ := hmin.form
  have hal := bal (Below.refl w.heap.size w) (.cells #[.int .i64 p.n, .slice a0 p.names.length c0, .slice a3 p.shown.length c3, .slice a1 p.rules.length c1, .slice a4 p.min.length c4] 27)
  have HP := Lib.hid (h0.below hal)
  have HL := Lib.hid (hl.below hal)
  have HCR := Lib.hid hcellR
  have hbk : Blk (w.alloc (.cells #[.int .i64 p.n, .slice a0 p.names.length c0, .slice a3 p.shown.length c3, .slice a1 p.rules.length c1, .slice a4 p.min.length c4] 27)) w.heap.size [.int .i64 p.n, .slice a0 p.names.length c0, .slice a3 p.shown.length c3, .slice a1 p.rules.length c1, .slice a4 p.min.length c4] 27 := Blk.new w _ _
  have HBK := Lib.hid hbk
  clear hbk hnames hshown hrules hmin h0 hl hcellR
  cases hfew : fewB p with
  | false =>
    go_enter Try.func5, Try.ntmps5
    go_wp2_with (first | (go_at_call 10; (with_reducible refine (few_any _ p _ HP.out).mono ?_); rintro e w1 ⟨h1, hb1⟩; rw [hfew] at h1; subst h1; have hc1 := bcell hb1; have HW1 := Lib.hid (bon hal hb1); have hz1 : w.heap.size < w1.heap.size := (by have := hb1.size; simp at this; omega)) | (go_at_call 11; (with_reducible refine (awake_any _).mono ?_); rintro e w3 ⟨rfl, hb3⟩))
    go_ret
    exact ⟨rfl, bon HW1.out hb3⟩
  | true =>
    by_cases hv : validE p = 0
    · have hve : (validE p != 0) = false := by simp [hv]
      have HV := Lib.hid hv
      clear hv
      go_enter Try.func5, Try.ntmps5
      go_wp2_with (first | (go_at_call 10; (with_reducible refine (few_any _ p _ HP.out).mono ?_); rintro e w1 ⟨h1, hb1⟩; rw [hfew] at h1; subst h1; have hc1 := bcell hb1; have HW1 := Lib.hid (bon hal hb1); have hz1 : w.heap.size < w1.heap.size := (by have := hb1.size; simp at this; omega)) | (go_at_call 21; (with_reducible refine (valid_any _ p _ (HP.out.below hb1)).mono ?_); rintro e w2 ⟨rfl, hb2⟩; have hc2 := bcell hb2; have HW2 := Lib.hid (bon HW1.out hb2); have hz2 : w.heap.size < w2.heap.size := (by have := hb2.size; omega)))
      have hV := validP HV.out
      have hpn := hV.n
      have hpr := hV.rules
      have HW02 := Lib.hid (bon hb1 hb2)
      have hnW : w.heap.size < (w.alloc (.cells #[.int .i64 p.n, .slice a0 p.names.length c0, .slice a3 p.shown.length c3, .slice a1 p.rules.length c1, .slice a4 p.min.length c4] 27)).heap.size := by simp
      clear hV hc1 hc2 hb1 hb2 hz1 hz2 HW1 HW2
      generalize w.alloc (.cells #[.int .i64 p.n, .slice a0 p.names.length c0, .slice a3 p.shown.length c3, .slice a1 p.rules.length c1, .slice a4 p.min.length c4] 27) = W0 at *
      have hmb := HW02.out.size
      go_loopw [30] (fun i wx => HR1 p W0 w2.heap.size (.slice a0 p.names.length c0) (.slice a3 p.shown.length c3) (.slice a4 p.min.length c4) i wx) (fun i _ => p.rules.length - (intOf i).toNat)
      case atStart => exact ⟨0, Nat.zero_le _, rfl, none, 0, 0, [], Blk.new w2 [.int .i64 p.n, .slice a0 p.names.length c0, .slice a3 p.shown.length c3, .slice none 0 0, .slice a4 p.min.length c4] _, Mine.nil _ _, by simp, bal HW02.out _⟩
      case round =>
        obtain ⟨k, hk, rfl, ar, nr, cr, L, hbm, hmine, hL, hb⟩ := hrel
        have HBM := Lib.hid hbm
        have HMN := Lib.hid hmine
        have HLL := Lib.hid hL
        have HB := Lib.hid hb
        have hkx := fun o => (bcell hb _ o hnW).trans (HBK.out.cell o)
        have hkm := hbm.cell
        clear hbm hmine hL hb
        by_cases hlt : k < p.rules.length
        · obtain ⟨b, off, hab, hbl, hc⟩ := HCR.out (by omega)
          subst hab
          obtain ⟨vh, vb, vw, ⟨r0, r1, r2, r3, r4, r5⟩, hsl⟩ := hc k hlt
          have hbw := hal.trans (HB.out.mono (by omega))
          obtain ⟨x1, y1, rfl, -, g1, -, -⟩ := hsl.head.form
          obtain ⟨x2, y2, rfl, -, g2, -, -⟩ := hsl.body.form
          obtain ⟨x3, y3, rfl, -, g3, -, -⟩ := hsl.wts.form
          have kk := bcell hbw b
          have q0 := (kk _ hbl).trans r0
          have q1 := (kk _ hbl).trans r1
          have q2 := (kk _ hbl).trans r2
          have q3 := (kk _ hbl).trans r3
          have q4 := (kk _ hbl).trans r4
          have q5 := (kk _ hbl).trans r5
          have HSL := Lib.hid (hsl.below hbw)
          clear kk r0 r1 r2 r3 r4 r5 hc hsl
          go_upto_region 8 with fail
          have hbr := Blk.new wr [.bool (ixR p.rules k).choice, .slice x1 (ixR p.rules k).head.length y1, .bool (ixR p.rules k).sum, .int .i64 (ixR p.rules k).bound, .slice x2 (ixR p.rules k).body.length y2, .slice x3 (ixR p.rules k).w.length y3] 44
          have hbx := bal (Below.refl wr.heap.size wr) (.cells #[.bool (ixR p.rules k).choice, .slice x1 (ixR p.rules k).head.length y1, .bool (ixR p.rules k).sum, .int .i64 (ixR p.rules k).bound, .slice x2 (ixR p.rules k).body.length y2, .slice x3 (ixR p.rules k).w.length y3] 44)
          have HBR := Lib.hid hbr
          have HBX := Lib.hid hbx
          have HH := Lib.hid (HSL.out.head.below hbx)
          have HBD := Lib.hid (HSL.out.body.below hbx)
          have HWT := Lib.hid (HSL.out.wts.below hbx)
          clear hbr hbx q0 q1 q2 q3 q4 q5 hkx hkm
          generalize wr.alloc (.cells #[.bool (ixR p.rules k).choice, .slice x1 (ixR p.rules k).head.length y1, .bool (ixR p.rules k).sum, .int .i64 (ixR p.rules k).bound, .slice x2 (ixR p.rules k).body.length y2, .slice x3 (ixR p.rules k).w.length y3] 44) = W1 at *
          have kr : ∀ e : Ext W1, ∀ o, e.world.cell? ⟨wr.heap.size, o, none⟩ = [Value.bool (ixR p.rules k).choice, .slice x1 (ixR p.rules k).head.length y1, .bool (ixR p.rules k).sum, .int .i64 (ixR p.rules k).bound, .slice x2 (ixR p.rules k).body.length y2, .slice x3 (ixR p.rules k).w.length y3][o]? := fun e o => (bcell e.below _ o HBR.out.lt).trans (HBR.out.cell o)
          refine wp_region_tail' 13 (fun _ => True) (copyΦ W1.heap.size (ixR p.rules k)) (fun i => i == 0 || i == 3 || i == 4 || i == 7 || i == 8 || i == 11) (by kernel_rfl) (by kernel_rfl) (by kernel_rfl) (fun _ _ => trivial) (copyΦ_later _ _) ?_
          simp only [List.take_succ_cons, List.take_zero, List.drop_succ_cons, List.drop_zero]
          refine walkP_mem rfl rfl (fun wa hba hFa => ?_) (fun v0 lo0 hi0 l0 g0 h0 => ?_)
          · go_simp
            exact ⟨bal (Below.refl _ _) _, rfl, by simp, heap_alloc_new _ _⟩
          obtain ⟨_, rfl, q0, -⟩ := h0
          simp only [Act.put, List.setIfInBounds_toArray, List.set_cons_succ, List.set_cons_zero]
          iterate 2 (refine walkP_head (by kernel_rfl) rfl rfl rfl (fun K hK => ?_); go_big_quiet_op; refine hK _ ?_; clear hK K)
          refine walkP_mem rfl rfl (fun wa hba hFa => ?_) (fun v3 lo3 hi3 l3 g3 h3 => ?_)
          · have f0 := hFa _ (.head _) (by kernel_rfl)
            obtain ⟨-, -, f0⟩ := f0
            obtain ⟨xa, ca, w', hr, hq, hbe⟩ := run_appendE 23 wa lo0 f0 _ _ (HH.out.below hba)
            have hlo := l0
            exact memUpon_append _ _ rfl rfl rfl hr ⟨hbe, xa, ca, rfl, hq.mono hlo⟩
          obtain ⟨_, xa3, ca3, rfl, -⟩ := h3
          simp only [Act.put, List.setIfInBounds_toArray, List.set_cons_succ, List.set_cons_zero]
          refine walkP_mem rfl rfl (fun wa hba hFa => ?_) (fun v4 lo4 hi4 l4 g4 h4 => ?_)
          · go_simp
            exact ⟨bal (Below.refl _ _) _, rfl, by simp, heap_alloc_new _ _⟩
          obtain ⟨_, rfl, q4, -⟩ := h4
          simp only [Act.put, List.setIfInBounds_toArray, List.set_cons_succ, List.set_cons_zero]
          iterate 2 (refine walkP_head (by kernel_rfl) rfl rfl rfl (fun K hK => ?_); go_big_quiet_op; refine hK _ ?_; clear hK K)
          refine walkP_mem rfl rfl (fun wa hba hFa => ?_) (fun v7 lo7 hi7 l7 g7 h7 => ?_)
          · have f0 := hFa _ (.head _) (by kernel_rfl)
            obtain ⟨-, -, f0⟩ := f0
            obtain ⟨xa, ca, w', hr, hq, hbe⟩ := run_appendE 23 wa lo4 f0 _ _ (HBD.out.below hba)
            have hlo := l4
            exact memUpon_append _ _ rfl rfl rfl hr ⟨hbe, xa, ca, rfl, hq.mono hlo⟩
          obtain ⟨_, xa7, ca7, rfl, -⟩ := h7
          simp only [Act.put, List.setIfInBounds_toArray, List.set_cons_succ, List.set_cons_zero]
          refine walkP_mem rfl rfl (fun wa hba hFa => ?_) (fun v8 lo8 hi8 l8 g8 h8 => ?_)
          · go_simp
            exact ⟨bal (Below.refl _ _) _, rfl, by simp, heap_alloc_new _ _⟩
          obtain ⟨_, rfl, q8, -⟩ := h8
          simp only [Act.put, List.setIfInBounds_toArray, List.set_cons_succ, List.set_cons_zero]
          iterate 2 (refine walkP_head (by kernel_rfl) rfl rfl rfl (fun K hK => ?_); go_big_quiet_op; refine hK _ ?_; clear hK K)
          refine walkP_mem rfl rfl (fun wa hba hFa => ?_) (fun v11 lo11 hi11 l11 g11 h11 => ?_)
          · have f0 := hFa _ (.head _) (by kernel_rfl)
            obtain ⟨-, -, f0⟩ := f0
            obtain ⟨xa, ca, w', hr, hq, hbe⟩ := run_appendE 23 wa lo8 f0 _ _ (HWT.out.below hba)
            have hlo := l8
            exact memUpon_append _ _ rfl rfl rfl hr ⟨hbe, xa, ca, rfl, hq.mono hlo⟩
          obtain ⟨_, xa11, ca11, rfl, -⟩ := h11
          simp only [Act.put, List.setIfInBounds_toArray, List.set_cons_succ, List.set_cons_zero]
          iterate 1 (refine walkP_head (by kernel_rfl) rfl rfl rfl (fun K hK => ?_); go_big_quiet_op; refine hK _ ?_; clear hK K)
          intro wx hbx hF hI hP
          have f11 := hF _ (.head _)
          have f7 := hF _ (.tail _ (.tail _ (.head _)))
          have f3 := hF _ (.tail _ (.tail _ (.tail _ (.tail _ (.head _)))))
          obtain ⟨_, _, e11, F11⟩ := f11
          obtain ⟨_, _, e7, F7⟩ := f7
          obtain ⟨_, _, e3, F3⟩ := f3
          clear hF hI hP
          have kx := fun o => (bcell hbx _ o HBR.out.lt).trans (HBR.out.cell o)
          have kf := fun o => (bfrozen hbx _ o HBR.out.lt).trans (HBR.out.free o)
          have HF11 := Lib.hid F11
          have HF7 := Lib.hid F7
          have HF3 := Lib.hid F3
          clear e11 e7 e3 F11 F7 F3
          iterate 5 (refine ⟨rfl, rfl, ?_⟩; go_simp)
          simp only [tailW]
          have hrc := HBR.out.below hbx
          have HRC : Hid (Blk (((wx.setCell ⟨wr.heap.size, 1, none⟩ (.slice xa3 (ixR p.rules k).head.length ca3)).setCell ⟨wr.heap.size, 4, none⟩ (.slice xa7 (ixR p.rules k).body.length ca7)).setCell ⟨wr.heap.size, 5, none⟩ (.slice xa11 (ixR p.rules k).w.length ca11)) wr.heap.size (cells6 (ixR p.rules k, .slice xa3 (ixR p.rules k).head.length ca3, .slice xa7 (ixR p.rules k).body.length ca7, .slice xa11 (ixR p.rules k).w.length ca11)) 44) := Lib.hid (((hrc.set 1 _).set 4 _).set 5 _)
          have hz1 : wr.heap.size < W1.heap.size := HBR.out.lt
          have HBW : Hid (Below wr.heap.size wr (((wx.setCell ⟨wr.heap.size, 1, none⟩ (.slice xa3 (ixR p.rules k).head.length ca3)).setCell ⟨wr.heap.size, 4, none⟩ (.slice xa7 (ixR p.rules k).body.length ca7)).setCell ⟨wr.heap.size, 5, none⟩ (.slice xa11 (ixR p.rules k).w.length ca11))) := Lib.hid ((((bon HBX.out hbx).setCell (Nat.le_refl _) _).setCell (Nat.le_refl _) _).setCell (Nat.le_refl _) _)
          have keep : ∀ (u : Value) (l : List Int), QRow W1.heap.size wx u l → QRow W1.heap.size (((wx.setCell ⟨wr.heap.size, 1, none⟩ (.slice xa3 (ixR p.rules k).head.length ca3)).setCell ⟨wr.heap.size, 4, none⟩ (.slice xa7 (ixR p.rules k).body.length ca7)).setCell ⟨wr.heap.size, 5, none⟩ (.slice xa11 (ixR p.rules k).w.length ca11)) u l := fun u l h =>
            h.kept fun i hi _ _ => (Below.heap_setCell _ _ _ _ (show i ≠ wr.heap.size by omega)).trans ((Below.heap_setCell _ _ _ _ (show i ≠ wr.heap.size by omega)).trans (Below.heap_setCell _ _ _ _ (show i ≠ wr.heap.size by omega)))
          have HQ3 := Lib.hid (keep _ _ HF3.out)
          have HQ7 := Lib.hid (keep _ _ HF7.out)
          have HQ11 := Lib.hid (keep _ _ HF11.out)
          clear keep hrc kx kf HF3 HF7 HF11 HH HBD HWT kr
          generalize ((wx.setCell ⟨wr.heap.size, 1, none⟩ (.slice xa3 (ixR p.rules k).head.length ca3)).setCell ⟨wr.heap.size, 4, none⟩ (.slice xa7 (ixR p.rules k).body.length ca7)).setCell ⟨wr.heap.size, 5, none⟩ (.slice xa11 (ixR p.rules k).w.length ca11) = W5 at *
          have HM5 := Lib.hid (HMN.out.below HBW.out)
          have HBM5 := Lib.hid (HBM.out.below HBW.out)
          have km := HBM5.out.cell
          have fm := HBM5.out.free
          have krr := HRC.out.cell
          have hcells : cells6 (ixR p.rules k, .slice xa3 (ixR p.rules k).head.length ca3, .slice xa7 (ixR p.rules k).body.length ca7, .slice xa11 (ixR p.rules k).w.length ca11) = [.bool (ixR p.rules k).choice, .slice xa3 (ixR p.rules k).head.length ca3, .bool (ixR p.rules k).sum, .int .i64 (ixR p.rules k).bound, .slice xa7 (ixR p.rules k).body.length ca7, .slice xa11 (ixR p.rules k).w.length ca11] := rfl
          rw [hcells] at krr
          clear hcells
          have hLlen : L.length = k := by have := congrArg List.length HLL.out; simp at this; omega
          have hqI : InI (ixR p.rules k).bound := HSL.out.bound
          have HQ : Hid (QRow (w2.heap.size + 1) W5 (.slice xa3 (ixR p.rules k).head.length ca3) (ixR p.rules k).head ∧ QRow (w2.heap.size + 1) W5 (.slice xa7 (ixR p.rules k).body.length ca7) (ixR p.rules k).body ∧ QRow (w2.heap.size + 1) W5 (.slice xa11 (ixR p.rules k).w.length ca11) (ixR p.rules k).w ∧ InI (ixR p.rules k).bound) := Lib.hid ⟨HQ3.out.mono (by have := HBM.out.lt; omega), HQ7.out.mono (by have := HBM.out.lt; omega), HQ11.out.mono (by have := HBM.out.lt; omega), hqI⟩
          clear HQ3 HQ7 HQ11 hqI
          have hL96 : (L.length + 1) * 96 ≤ 140737488351232 := by omega
          have hone : ∀ u ∈ cells6 (ixR p.rules k, .slice xa3 (ixR p.rules k).head.length ca3, .slice xa7 (ixR p.rules k).body.length ca7, .slice xa11 (ixR p.rules k).w.length ca11), u.oneCell' = true := by
            intro u hu
            simp only [cells6, List.mem_cons, List.not_mem_nil, or_false] at hu
            rcases hu with rfl | rfl | rfl | rfl | rfl | rfl <;> rfl
          have HONE := Lib.hid hone
          have hz5 : w2.heap.size + 1 ≤ W5.heap.size := HBM5.out.lt
          have hnr : nr = L.length := by
            rcases HM5.out.row.2 with ⟨e, e2⟩ | ⟨g, cap, cur, e, _⟩
            · simp only [Value.slice.injEq] at e; omega
            · simp only [Value.slice.injEq] at e; exact e.2.1
          subst hnr
          have HLK := Lib.hid hLlen
          clear hLlen
          have HMN2 : ∀ (w6 : World) (g6 cap6 : Nat), w6.ownsRow (w2.heap.size + 1) 44 6 (.slice (some ⟨g6, 0, none⟩) (L.length + 1) cap6) (L.length + 1) (L.flatMap cells6 ++ cells6 (ixR p.rules k, .slice xa3 (ixR p.rules k).head.length ca3, .slice xa7 (ixR p.rules k).body.length ca7, .slice xa11 (ixR p.rules k).w.length ca11)) → (W5.alloc (.cells #[.bool (ixR p.rules k).choice, .slice xa3 (ixR p.rules k).head.length ca3, .bool (ixR p.rules k).sum, .int .i64 (ixR p.rules k).bound, .slice xa7 (ixR p.rules k).body.length ca7, .slice xa11 (ixR p.rules k).w.length ca11] 44)).grownBy w6 (Value.slice ar L.length cr).ownBlock →
              Blk w6 w2.heap.size [.int .i64 p.n, .slice a0 p.names.length c0, .slice a3 p.shown.length c3, .slice ar L.length cr, .slice a4 p.min.length c4] 27 ∧ Mine (w2.heap.size + 1) (.slice (some ⟨g6, 0, none⟩) (L.length + 1) cap6) (L ++ [(ixR p.rules k, .slice xa3 (ixR p.rules k).head.length ca3, .slice xa7 (ixR p.rules k).body.length ca7, .slice xa11 (ixR p.rules k).w.length ca11)]) w6 ∧
                (L ++ [(ixR p.rules k, Value.slice xa3 (ixR p.rules k).head.length ca3, Value.slice xa7 (ixR p.rules k).body.length ca7, Value.slice xa11 (ixR p.rules k).w.length ca11)]).map (·.1) = p.rules.take (k + 1) ∧ Below W0.heap.size W0 w6 := fun w6 g6 cap6 hown6 hg6 => by
            have hal5 := bal (Below.refl W5.heap.size W5) (.cells #[.bool (ixR p.rules k).choice, .slice xa3 (ixR p.rules k).head.length ca3, .bool (ixR p.rules k).sum, .int .i64 (ixR p.rules k).bound, .slice xa7 (ixR p.rules k).body.length ca7, .slice xa11 (ixR p.rules k).w.length ca11] 44)
            have hM := HM5.out.below hal5
            have hrb : ∀ g, (Value.slice ar L.length cr).ownBlock = some g → w2.heap.size + 1 ≤ g := fun g e => by
              rcases hM.row.2 with ⟨e1, _⟩ | ⟨g', cap, cur, e1, hb', _⟩
              · rw [e1] at e; cases e
              · rw [e1] at e; simp only [Value.ownBlock, Option.some.injEq] at e; omega
            have hB5 := HBM5.out.below hal5
            refine ⟨hB5.same (hg6.block _ hB5.lt (fun e => by have := hrb _ e.symm; omega)), hM.push ⟨HQ.out.1.below hal5, HQ.out.2.1.below hal5, HQ.out.2.2.1.below hal5, HQ.out.2.2.2⟩ hown6 hg6, ?_, below_grown (bon HB.out HBW.out) (fun g e => by have := hrb g e; omega) hg6⟩
            rw [List.map_append, HLL.out, List.take_add_one, List.getElem?_eq_getElem hlt]
            simp [ixR, List.getD_eq_getElem?_getD, List.getElem?_eq_getElem hlt]
          have HMA := Lib.hid (HM5.out.below (bal (Below.refl W5.heap.size W5) (.cells #[.bool (ixR p.rules k).choice, .slice xa3 (ixR p.rules k).head.length ca3, .bool (ixR p.rules k).sum, .int .i64 (ixR p.rules k).bound, .slice xa7 (ixR p.rules k).body.length ca7, .slice xa11 (ixR p.rules k).w.length ca11] 44)))
          clear hone
          go_wp2_with (at_builtin; go_loud (refine wpList_plain rfl (fun _ hK' => wp_appendR _ _ 24 Try.underlying24 rfl (w2.heap.size + 1) (.slice ar L.length cr) L (ixR p.rules k, .slice xa3 (ixR p.rules k).head.length ca3, .slice xa7 (ixR p.rules k).body.length ca7, .slice xa11 (ixR p.rules k).w.length ca11) rfl HMA.out.row W5.heap.size 1 rfl (Blk.new W5 [.bool (ixR p.rules k).choice, .slice xa3 (ixR p.rules k).head.length ca3, .bool (ixR p.rules k).sum, .int .i64 (ixR p.rules k).bound, .slice xa7 (ixR p.rules k).body.length ca7, .slice xa11 (ixR p.rules k).w.length ca11] _) HONE.out hL96 (by simp; omega) ?_)); intro g6 cap6 w6 hown6 hg6 hl6 hlt6; have hnew := HMN2 w6 g6 cap6 hown6 hg6; have HNEW := Lib.hid hnew; have km6 := hnew.1.cell; have fm6 := hnew.1.free; clear hnew hown6 hg6 hl6 hlt6; refine hK' _ _ ?_)
          first
            | (go_roundw
               case rel => (exact ⟨k + 1, by omega, by go_num, _, _, _, _, HNEW.out.1.set 3 _, HNEW.out.2.1.setCell 3 _ (Nat.lt_succ_self _), HNEW.out.2.2.1, HNEW.out.2.2.2.setCell hmb _⟩)
               case measure => (simp [intOf]; omega))
            | (refine ⟨?_, ?_⟩
               · (exact ⟨k + 1, by omega, by go_num, _, _, _, _, HNEW.out.1.set 3 _, HNEW.out.2.1.setCell 3 _ (Nat.lt_succ_self _), HNEW.out.2.2.1, HNEW.out.2.2.2.setCell hmb _⟩)
               · (simp [intOf]; omega))
        · obtain rfl : k = p.rules.length := by omega
          rw [List.take_length] at HLL
          have hLlen : L.length = p.rules.length := by have := congrArg List.length HLL.out; simpa using this
          have hnr : nr = L.length := by
            rcases HMN.out.row.2 with ⟨e, e2⟩ | ⟨g, cap, cur, e, _⟩
            · simp only [Value.slice.injEq] at e; omega
            · simp only [Value.slice.injEq] at e; exact e.2.1
          subst hnr
          have HLK := Lib.hid hLlen
          have hmr := HMN.out.rules p.rules HLL.out (by omega) (fun q hq => few_small hfew q.1 (by rw [← HLL.out]; exact List.mem_map_of_mem hq))
          obtain ⟨vn', vs', vr', vm', he, hpw⟩ := HP.out.below HB.out
          have he := congrArg Array.toList (Value.agg.inj he)
          have hpp : ProgIs wr (.agg #[.int .i64 p.n, .slice a0 p.names.length c0, .slice a3 p.shown.length c3, .slice ar L.length cr, .slice a4 p.min.length c4]) p := by
            simp only [List.cons.injEq, and_true, true_and] at he
            obtain ⟨rfl, rfl, -, rfl⟩ := he
            exact ⟨_, _, _, _, rfl, hpw.n, hpw.names, hpw.shown, ⟨_, _, _, hmr⟩, hpw.min⟩
          have HPM := Lib.hid hpp
          clear hLlen hmr he hpw hpp
          go_upto_region 12 with (go_at_call 12; (with_reducible refine (new_valid HPM.out HV.out).mono ?_); rintro e w3 ⟨s, rfl, hb3, hsH, hs3⟩; have HB3 := Lib.hid hb3; have HS3 := Lib.hid hs3; clear hb3 hs3)
          have HST0 : Hid (HMSt p W0 w2.heap.size s ar L [.int .i64 p.n, .slice a0 p.names.length c0, .slice a3 p.shown.length c3, .slice ar L.length cr, .slice a4 p.min.length c4] w3) := Lib.hid ⟨by rw [hsH]; exact (HMN.out.mw rfl).below HB3.out, HBM.out.below HB3.out, bon HB.out HB3.out, HS3.out.core⟩
          have hHW : W0.heap.size ≤ s.H := by have := HB.out.size; omega
          have hLsm : L.length ≤ 40000 := by have := HLK.out; omega
          have HSM : Hid (∀ k, k < L.length → (L.getD k default).1.body.length * 8 ≤ 140737488351232) := Lib.hid (fun k hk => by
            have e : L.getD k default = L[k] := by simp [List.getD_eq_getElem?_getD, List.getElem?_eq_getElem hk]
            rw [e]
            exact (few_small hfew _ (by rw [← HLL.out]; exact List.mem_map_of_mem (List.getElem_mem hk))).2.1)
          have hmbH : w2.heap.size + 1 ≤ s.H := by have := HBM.out.lt; omega
          clear hkx hkm HMN HBM HPM HB HS3 hlt
          have km3 := HST0.out.box.cell
          go_wp2_with fail
          clear km3
          go_loopw [64] (fun i wx => HR2 p W0 w2.heap.size s ar L [.int .i64 p.n, .slice a0 p.names.length c0, .slice a3 p.shown.length c3, .slice ar L.length cr, .slice a4 p.min.length c4] L.length i wx) (fun i _ => L.length - (intOf i).toNat)
          case atStart => exact ⟨0, Nat.zero_le _, rfl, HST0.out⟩
          case round =>
            obtain ⟨k, hk, rfl, hst⟩ := hrel
            have HST := Lib.hid hst
            clear hst HST0
            by_cases hlt : k < L.length
            · obtain ⟨b, off, cur, hab, -⟩ := HST.out.mw.row (by omega)
              obtain ⟨a5, c5, e5, -⟩ := HST.out.mw.body k hlt
              have hnb := HSM.out k hlt
              have E5 := Lib.hid e5
              generalize (L.getD k default).1.body.length = nb at *
              subst hab
              obtain ⟨-, q4, -⟩ := HST.out.mw.at hlt E5.out
              have km := HST.out.box.cell
              clear e5
              go_wp2_with fail
              clear q4 km
              obtain ⟨wo, rfl⟩ : ∃ wo : World, wo = wr := ⟨_, rfl⟩
              go_loopw [74] (fun i wx => HR2 p W0 w2.heap.size s (some ⟨b, off, none⟩) L [.int .i64 p.n, .slice a0 p.names.length c0, .slice a3 p.shown.length c3, .slice (some ⟨b, off, none⟩) L.length cr, .slice a4 p.min.length c4] nb i wx) (fun i _ => nb - (intOf i).toNat)
              case atStart => exact ⟨0, Nat.zero_le _, rfl, HST.out⟩
              case round =>
                obtain ⟨j, hj, rfl, hst⟩ := hrel
                have HSJ := Lib.hid hst
                have km := hst.box.cell
                obtain ⟨⟨cur', hbk', hb1, hb2⟩, q4, ⟨bd, q3⟩, f3, hbody⟩ := hst.mw.at hlt E5.out
                clear hst
                by_cases hltj : j < nb
                · obtain ⟨g, off2, cur2, rfl, hg1, hg2, hgb, hgl⟩ := hbody (by omega)
                  obtain ⟨v0, hv0⟩ : ∃ v, wr.cell? ⟨g, off2 + j, none⟩ = some v := ⟨cur2[off2 + j], by rw [hgb.cell]; exact List.getElem?_eq_getElem (by omega)⟩
                  have hgf := hgb.free (off2 + j)
                  have HGB := Lib.hid hgb
                  clear hgb hbk'
                  go_wp2_with fail
                  first
                    | (go_roundw
                       case rel => (exact ⟨j + 1, by omega, by go_num, HSJ.out.setBody hmb HGB.out hg1 hg2 _ _⟩)
                       case measure => (simp [intOf]; omega))
                    | (refine ⟨?_, ?_⟩
                       · (exact ⟨j + 1, by omega, by go_num, HSJ.out.setBody hmb HGB.out hg1 hg2 _ _⟩)
                       · (simp [intOf]; omega))
                · clear hbk' hbody
                  go_wp2_with fail
                  first
                    | (go_roundw
                       case rel => (exact ⟨k + 1, by omega, by go_num, HSJ.out.setBound hmb hb1 hb2 hlt _⟩)
                       case measure => (simp [intOf]; omega))
                    | (refine ⟨?_, ?_⟩
                       · (exact ⟨k + 1, by omega, by go_num, HSJ.out.setBound hmb hb1 hb2 hlt _⟩)
                       · (simp [intOf]; omega))
            · have hlsI := hcl1
              obtain ⟨m, hmn, hm1, hm2⟩ : ∃ m : Nat, (if (10 : Int) < (ls.length : Int) then (10 : Int) else (ls.length : Int)) = m ∧ m ≤ ls.length ∧ m ≤ 10 := by
                by_cases h : (10 : Int) < (ls.length : Int)
                · exact ⟨10, by rw [if_pos h]; rfl, by omega, by omega⟩
                · exact ⟨ls.length, by rw [if_neg h], by omega, by omega⟩
              go_wp2_with fail
              clear hmn
              obtain ⟨wo, rfl⟩ : ∃ wo : World, wo = wr := ⟨_, rfl⟩
              go_loopw [102] (fun i wx => HR4 s p W0 m i wx) (fun i _ => m - (intOf i).toNat)
              case atStart => exact ⟨0, Nat.zero_le _, rfl, _, _, _, HST.out.core, zero_inv p, by omega, HST.out.below⟩
              case round =>
                obtain ⟨q, hq, rfl, F0, K0, clk0, hc, hi, hclk, hb⟩ := hrel
                have HC := Lib.hid hc
                have HI := Lib.hid hi
                have HB := Lib.hid hb
                clear hc hi hb
                by_cases hltq : q < m
                · obtain ⟨br, offr, vrow, rfl, hbr, hcr0, hrow⟩ := HL.out.at (show q < ls.length by omega)
                  have hcr := (bcell HB.out _ _ hbr).trans hcr0
                  obtain ⟨ar', nr', cr', rfl⟩ : ∃ ar nr cr, vrow = .slice ar nr cr := by obtain ⟨⟨x, y, e, -⟩, -⟩ := hrow; exact ⟨_, _, _, e⟩
                  have HROW0 := Lib.hid hrow
                  have hc0 : clk0 ≤ 2305843009213693952 := by omega
                  have kx := fun o => (bcell HB.out _ o hnW).trans (HBK.out.cell o)
                  have hHW2 := HB.out.size
                  generalize haE : ix8 ls q = a at *
                  clear hrow hcr0 haE
                  go_upto_region 26 with (go_at_call 12; (with_reducible refine (new_valid (HP.out.below HB.out) HV.out).mono ?_); rintro e w4 ⟨s2, rfl, hb4, hsH4, hs4⟩)
                  clear hcr kx
                  have hlm := HC.out.lim
                  have hTH : s.T ≤ s2.H := by rw [hsH4]; exact hlm.2.1
                  have HC4 := Lib.hid (HC.out.below hb4)
                  have HF4 := Lib.hid hs4.core
                  have HB4 := Lib.hid (bon HB.out hb4)
                  have HROW4 := Lib.hid (HROW0.out.below HB4.out)
                  have HM1 : Hid (∀ i ∈ s.mut, s.H ≤ i ∧ i < s.T) := Lib.hid hlm.2.2
                  have HM2 : Hid (∀ i ∈ s2.mut, s2.H ≤ i ∧ i < s2.T) := Lib.hid HF4.out.lim.2.2
                  have hT2 := HF4.out.lim.2.1
                  have hz2 : (0 : Int) ≤ 2305843009213693952 := by omega
                  clear hb4 hs4 hlm
                  go_wp2_with (first
                    | (go_at_call 16; (with_reducible refine (intsEq_any _ _ _ _ _ HI1.out HI2.out).mono ?_); rintro e w7 ⟨e7, hb7⟩; rw [hist_eq HF1.out HF2.out] at e7; subst e7; have HEND := Lib.hid (HT2.out.on hb7); clear hb7)
                    | (go_at_call 14; (with_reducible refine (find_hist HC2.out (zero_inv p) hz2 _ HROW5.out hHW3 HB5.out).mono ?_); rintro e w6 ⟨F2, av2, cv2, rfl, hq6, hf6, hl6, -⟩; have HI1 := Lib.hid ((HQ5.out.limKept hl6 (Nat.le_refl _) (fun i hi => by have := HM2.out i hi; omega)).ints (findTo_small _ _ hpn.2)); have HI2 := Lib.hid (hq6.ints (findTo_small _ _ hpn.2)); have HF2 := Lib.hid hf6; have HT2 := Lib.hid (HT1.out.lim hl6 (fun i hi => by have := HM2.out i hi; omega)); clear hq6 hf6 hl6)
                    | (go_at_call 14; (with_reducible refine (find_hist HC4.out HI.out hc0 _ HROW4.out hHW HB4.out).mono ?_); rintro e w5 ⟨F1, av1, cv1, rfl, hq5, hf5, hl5, ht5⟩; have HQ5 := Lib.hid hq5; have HF1 := Lib.hid hf5; have HT1 := Lib.hid ht5; have HB5 := Lib.hid ht5.below; have HROW5 := Lib.hid (HROW0.out.below ht5.below); have hHW3 : W0.heap.size ≤ s2.H := (by omega); have HC2 := Lib.hid (HF4.out.keep hl5.size (fun i i1 i2 => hl5.block i (by omega) (fun hm => by have := HM1.out i hm; omega))); clear hq5 hf5 hl5 ht5))
                  obtain ⟨F, K, clk, hf, hclk8, hc8, hb8⟩ := HEND.out
                  have hclk9 : clk ≤ 4000 * ((q + 1 : Nat) : Int) := by push_cast; omega
                  first
                    | (go_roundw
                       case rel => (exact ⟨q + 1, by omega, by go_num, F, K, clk, hc8, hf.lost.inv, hclk9, hb8⟩)
                       case measure => (simp [intOf]; omega))
                    | (refine ⟨?_, ?_⟩
                       · (exact ⟨q + 1, by omega, by go_num, F, K, clk, hc8, hf.lost.inv, hclk9, hb8⟩)
                       · (simp [intOf]; omega))
                · go_wp2_with (go_at_call 11; (with_reducible refine (awake_any _).mono ?_); rintro e w9 ⟨rfl, hb9⟩)
                  go_ret
                  exact ⟨rfl, bon (hal.trans (HB.out.mono (by omega))) hb9⟩
    · have hve : (validE p != 0) = true := by simp [hv]
      clear hv
      go_enter Try.func5, Try.ntmps5
      go_wp2_with (first | (go_at_call 10; (with_reducible refine (few_any _ p _ HP.out).mono ?_); rintro e w1 ⟨h1, hb1⟩; rw [hfew] at h1; subst h1; have hc1 := bcell hb1; have HW1 := Lib.hid (bon hal hb1); have hz1 : w.heap.size < w1.heap.size := (by have := hb1.size; simp at this; omega)) | (go_at_call 21; (with_reducible refine (valid_any _ p _ (HP.out.below hb1)).mono ?_); rintro e w2 ⟨rfl, hb2⟩; have hc2 := bcell hb2; have HW2 := Lib.hid (bon HW1.out hb2); have hz2 : w.heap.size < w2.heap.size := (by have := hb2.size; omega)) | (go_at_call 11; (with_reducible refine (awake_any _).mono ?_); rintro e w3 ⟨rfl, hb3⟩))
      go_ret
      exact ⟨rfl, bon HW2.out hb3⟩

theorem hist_law {v vl : Value} {p : GP} {ls : List (List Int)} {W : World} (h : ProgIs W v p) (hl : Rows8 W vl ls) : Calls Try.prog 5 #[v, vl] W fun e w' => e = .returned (.bool true) ∧ Below W.heap.size W w' := hist_walk v vl p ls W h hl

end Go.Proofs.Ytkjpnpkmnpofgaa
