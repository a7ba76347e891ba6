/- source.New: its first half. -/
import Derived.Test.YtkjpnpkmnpofgaaGp5
import Derived.Test.YtkjpnpkmnpofgaaSrc1
import Derived.Test.YtkjpnpkmnpofgaaOps
import Derived.Test.YtkjpnpkmnpofgaaPlain1
namespace Go.Proofs.Ytkjpnpkmnpofgaa
open Go.RowKit
attribute [local go_sem] memUpon

def New1Rel (p : GP) (w : World) (c : List Value) (s4 : Value) (wx : World) : Prop :=
  Blk wx w.heap.size c 27 ∧ ∃ b bh bu bf bk vn, s4 = .pointer (some ⟨b, 0, none⟩) ∧ Blk wx b [.int .i64 p.n, vn, .slice none 0 0, .slice none 0 0, .slice none 0 0, .map (some bh), .map (some bu), .map (some bf), .map (some bk), .int .i64 0, .slice none 0 0] 54 ∧
    MapIs (Value.int .i64) wx bh (fun _ => none) ∧ MapIs (Value.int .i64) wx bu (fun _ => none) ∧ MapIs (Value.int .i64) wx bf (fun _ => none) ∧ MapIs (Value.int .i64) wx bk (fun _ => none) ∧
    (bh ≠ bu ∧ bh ≠ bf ∧ bh ≠ bk ∧ bu ≠ bf ∧ bu ≠ bk ∧ bf ≠ bk) ∧ OwnS w.heap.size wx vn p.names ∧ Below w.heap.size w wx ∧ w.heap.size ≤ b ∧ w.heap.size ≤ bh ∧ w.heap.size ≤ bu ∧ w.heap.size ≤ bf ∧ w.heap.size ≤ bk

/-- What the operations of source.New's first region leave. -/
def new1Φ (base : Nat) (names : List ByteArray) : Nat → List Value → Value → Nat → Nat → World → Prop
  | 4, _, v, _, _, w => ∃ a c, v = .slice a names.length c ∧ OwnS base w v names
  | 12, args, v, lo, _, w => v = .pointer (some ⟨lo, 0, none⟩) ∧ lo < w.heap.size ∧ ∀ cs : List Value, args = [.agg cs.toArray] → Blk w lo cs 54
  | _, _, v, lo, hi, w => v = .map (some lo) ∧ lo < hi ∧ MapIs (Value.int .i64) w lo (fun _ => none)

theorem new1Φ_later (base : Nat) (names : List ByteArray) : ∀ i args v lo hi w w', new1Φ base names i args v lo hi w → Below w.heap.size w w' → new1Φ base names i args v lo hi w' := by
  intro i args v lo hi w w' h hb
  unfold new1Φ at *
  split at h
  · obtain ⟨a, c, e, h⟩ := h; exact ⟨a, c, e, h.below hb⟩
  · obtain ⟨e, hl, h⟩ := h; exact ⟨e, Nat.lt_of_lt_of_le hl hb.size, fun cs he => (h cs he).below hb⟩
  · obtain ⟨e, hl, h⟩ := h; exact ⟨e, hl, h.below hb⟩

theorem cloneS_sl (v : Value) (l : List ByteArray) (w : World) (h : Strs w v l) :
    Calls Try.prog 32 #[v] w fun e w' => ∃ a c, e = .returned (.slice a l.length c) ∧ OwnS w.heap.size w' (.slice a l.length c) l ∧ Below w.heap.size w w' :=
  (cloneS_any v l w h).mono fun _ _ ⟨v', e, ho, hb⟩ => by
    obtain ⟨a, c, rfl⟩ := ho.1.form
    exact ⟨a, c, e, ho, hb⟩

/-- The state while the rules are entered: m rules appended; the rows hold k rules whole, and j (j') places of rule k. -/
def NewSt (p : GP) (w : World) (b m k j j' : Nat) (X : List (Nat × List Value)) (wx : World) : Prop :=
  ∃ κ bh bu bf bk vn vr gh gu Rh Ru L, NS κ w.heap.size p b bh bu bf bk vn vr gh gu Rh Ru L X wx ∧ L.map (·.1) = p.rules.take m ∧
    RowsAt (fun _ => true) (fun i => (ixR p.rules i).head) k j Rh ∧ RowsAt (fun x => decide (0 < x)) (fun i => (ixR p.rules i).body) k j' Ru ∧ Below w.heap.size w wx

def NewL1 (p : GP) (w : World) (b : Nat) (i : Value) (wx : World) : Prop := ∃ k : Nat, k ≤ p.rules.length ∧ i = .int .i64 k ∧ NewSt p w b k k 0 0 [] wx
def NewL2 (p : GP) (w : World) (b k : Nat) (X : List (Nat × List Value)) (i : Value) (wx : World) : Prop := ∃ j : Nat, j ≤ (ixR p.rules k).head.length ∧ i = .int .i64 j ∧ NewSt p w b (k + 1) k j 0 X wx
def NewL3 (p : GP) (w : World) (b k : Nat) (X : List (Nat × List Value)) (i : Value) (wx : World) : Prop := ∃ j : Nat, j ≤ (ixR p.rules k).body.length ∧ i = .int .i64 j ∧ NewSt p w b (k + 1) k (ixR p.rules k).head.length j X wx

def own7Φ (r : GR) : Nat → List Value → Value → Nat → Nat → World → Prop
  | 8, _, v, lo, _, w => ∃ vh vb vw, v = .agg #[.bool r.choice, vh, .bool r.sum, .int .i64 r.bound, vb, vw] ∧ OwnI lo w vh r.head ∧ OwnI lo w vb r.body ∧ OwnI lo w vw r.w ∧ InI r.bound
  | _, args, v, lo, hi, w => v = .slice (some ⟨lo, 0, none⟩) 1 1 ∧ lo < hi ∧ ∀ cs : List Value, args = [.agg cs.toArray] → Blk w lo cs 44

theorem own7Φ_later (r : GR) : ∀ i args v lo hi w w', own7Φ r i args v lo hi w → Below w.heap.size w w' → own7Φ r i args v lo hi w' := by
  intro i args v lo hi w w' h hb
  unfold own7Φ at *
  split at h
  · obtain ⟨vh, vb, vw, e, h1, h2, h3, h4⟩ := h; exact ⟨vh, vb, vw, e, h1.below hb, h2.below hb, h3.below hb, h4⟩
  · obtain ⟨e, hl, h⟩ := h; exact ⟨e, hl, fun cs he => (h cs he).below hb⟩

def bld1Φ : Nat → List Value → Value → Nat → Nat → World → Prop
  | _, args, v, lo, hi, w => v = .slice (some ⟨lo, 0, none⟩) 1 1 ∧ lo < hi ∧ ∀ x, args = [x] → Blk w lo [x] 3

theorem bld1Φ_later : ∀ i args v lo hi w w', bld1Φ i args v lo hi w → Below w.heap.size w w' → bld1Φ i args v lo hi w' := by
  intro i args v lo hi w w' ⟨e, hl, h⟩ hb
  exact ⟨e, hl, fun x he => (h x he).below hb⟩

set_option maxHeartbeats 40000000 in
set_option maxRecDepth 100000 in
theorem newA (v : Value) (p : GP) (w : World) (h : ProgIs w v p) (hv : validE p = 0) :
    Calls Try.prog 12 #[v] w fun e w' => ∃ b, e = .returned (.tuple #[.pointer (some ⟨b, 0, none⟩), .int .i64 0]) ∧ NewSt p w b p.rules.length p.rules.length 0 0 [] w' := by
  have h0 := h
  obtain ⟨vn, vs, vr, vm, rfl, hn, hnames, hshown, hrules, hmin⟩ := h
  obtain ⟨a1, c1, rfl, -, hl1, -, -, -⟩ := hnames.form
  obtain ⟨a2, c2, rfl, -, hl2, -, hcell⟩ := hrules.form
  have VP := validP hv
  obtain ⟨W, hW⟩ : ∃ W, W = (w.alloc (.cells #[.int .i64 p.n, .slice a1 p.names.length c1, vs, .slice a2 p.rules.length c2, vm] 27)) := ⟨_, rfl⟩
  have hal : Below w.heap.size w W := by rw [hW]; exact bal (Below.refl _ _) _
  have B1 : Blk W w.heap.size [.int .i64 p.n, .slice a1 p.names.length c1, vs, .slice a2 p.rules.length c2, vm] 27 := by rw [hW]; exact Blk.new w _ _
  have HP := Lib.hid (h0.below hal)
  have HN := Lib.hid (hnames.below hal)
  have hk := B1.cell
  have HB1 := Lib.hid B1
  have hve : (validE p == 0) = true := by simp [hv]
  have hvn : (validE p != 0) = false := by simp [hv]
  have hW' := hW.symm
  clear hW B1 hshown hrules hmin h0 hnames hv
  go_enter Try.func12, Try.ntmps12
  go_upto_region 3 with (go_at_call 21; refine (valid_any _ p _ HP.out).mono ?_; rintro e w1 ⟨rfl, hb1⟩; have hc1 := bcell hb1; have hz1 : w.heap.size < W.heap.size := HB1.out.lt)
  have B2 := HB1.out.below hb1
  have hk2 := B2.cell
  have hal1 := bon hal hb1
  have HN1 := Lib.hid (HN.out.below hb1)
  clear hW' hk hc1
  have hmm := @run_makeMap Try.prog
  go_cut [4] (fun s4 wx => New1Rel p w [.int .i64 p.n, .slice a1 p.names.length c1, vs, .slice a2 p.rules.length c2, vm] s4 wx)
  case first =>
    have kc : ∀ e : Ext w1, ∀ b o, b < w1.heap.size → e.world.cell? ⟨b, o, none⟩ = w1.cell? ⟨b, o, none⟩ := fun e => e.cell
    have hz3 := B2.lt
    refine wp_region_perm' (new1Φ w.heap.size p.names) (fun i => i == 4 || i == 6 || i == 7 || i == 9 || i == 10 || i == 12) (by kernel_rfl) (by kernel_rfl) (by kernel_rfl) (new1Φ_later _ _) ?_
    iterate 4 (refine walkP_calm rfl rfl rfl (fun K hK => ?_); go_big_quiet_op; refine hK _ ?_; clear hK K)
    refine walkP_mem rfl rfl (fun wa hba hFa => ?_) (fun v4 lo4 hi4 l4 g4 h4 => ?_)
    · go_simp
      refine (cloneS_sl _ p.names _ (HN1.out.below hba)).mono ?_
      rintro e w2 ⟨x, y, rfl, ho, hb⟩
      exact ⟨_, rfl, hb, x, y, rfl, ho.mono (by have := hal1.size; have := hba.size; omega)⟩
    obtain ⟨_, x4, y4, rfl, -⟩ := h4
    simp only [Act.put, List.setIfInBounds_toArray, List.set_cons_succ, List.set_cons_zero]
    iterate 1 (refine walkP_calm rfl rfl rfl (fun K hK => ?_); go_big_quiet_op; refine hK _ ?_; clear hK K)
    refine walkP_mem rfl rfl (fun wa hba hFa => ?_) (fun v6 lo6 hi6 l6 g6 h6 => ?_)
    · go_simp
      exact ⟨bal (Below.refl _ _) _, rfl, by simp, MapIs.made _⟩
    obtain ⟨_, rfl, q6, -⟩ := h6
    simp only [Act.put, List.setIfInBounds_toArray, List.set_cons_succ, List.set_cons_zero]
    refine walkP_mem rfl rfl (fun wa hba hFa => ?_) (fun v7 lo7 hi7 l7 g7 h7 => ?_)
    · go_simp
      exact ⟨bal (Below.refl _ _) _, rfl, by simp, MapIs.made _⟩
    obtain ⟨_, rfl, q7, -⟩ := h7
    simp only [Act.put, List.setIfInBounds_toArray, List.set_cons_succ, List.set_cons_zero]
    iterate 1 (refine walkP_calm rfl rfl rfl (fun K hK => ?_); go_big_quiet_op; refine hK _ ?_; clear hK K)
    refine walkP_mem rfl rfl (fun wa hba hFa => ?_) (fun v9 lo9 hi9 l9 g9 h9 => ?_)
    · go_simp
      exact ⟨bal (Below.refl _ _) _, rfl, by simp, MapIs.made _⟩
    obtain ⟨_, rfl, q9, -⟩ := h9
    simp only [Act.put, List.setIfInBounds_toArray, List.set_cons_succ, List.set_cons_zero]
    refine walkP_mem rfl rfl (fun wa hba hFa => ?_) (fun v10 lo10 hi10 l10 g10 h10 => ?_)
    · go_simp
      exact ⟨bal (Below.refl _ _) _, rfl, by simp, MapIs.made _⟩
    obtain ⟨_, rfl, q10, -⟩ := h10
    simp only [Act.put, List.setIfInBounds_toArray, List.set_cons_succ, List.set_cons_zero]
    iterate 1 (refine walkP_calm rfl rfl rfl (fun K hK => ?_); go_big_quiet_op; refine hK _ ?_; clear hK K)
    refine walkP_mem rfl rfl (fun wa hba hFa => ?_) (fun v12 lo12 hi12 l12 g12 h12 => ?_)
    · go_simp
      refine ⟨bal (Below.refl _ _) _, rfl, by simp, fun cs he => ?_⟩
      simp only [argsOf, Op.operands, List.map_cons, List.map_nil, Act.eval, List.cons.injEq, and_true] at he
      have he' : Value.agg #[_, _, _, _, _, _, _, _, _, _, _] = Value.agg cs.toArray := he
      have he2 := (Value.agg.inj he').symm
      obtain rfl : cs = [_, _, _, _, _, _, _, _, _, _, _] := congrArg Array.toList he2
      exact Blk.new wa [_, _, _, _, _, _, _, _, _, _, _] _
    obtain ⟨_, rfl, -, -⟩ := h12
    simp only [Act.put, List.setIfInBounds_toArray, List.set_cons_succ, List.set_cons_zero]
    iterate 1 (refine walkP_calm rfl rfl rfl (fun K hK => ?_); go_big_quiet_op; refine hK _ ?_; clear hK K)
    intro wx hbx hF hI hP
    have f12 := hF _ (.head _)
    have f10 := hF _ (.tail _ (.head _))
    have f9 := hF _ (.tail _ (.tail _ (.head _)))
    have f7 := hF _ (.tail _ (.tail _ (.tail _ (.head _))))
    have f6 := hF _ (.tail _ (.tail _ (.tail _ (.tail _ (.head _)))))
    have f4 := hF _ (.tail _ (.tail _ (.tail _ (.tail _ (.tail _ (.head _))))))
    obtain ⟨-, -, F12⟩ := f12
    obtain ⟨-, -, F10⟩ := f10
    obtain ⟨-, -, F9⟩ := f9
    obtain ⟨-, -, F7⟩ := f7
    obtain ⟨-, -, F6⟩ := f6
    obtain ⟨_, _, -, F4⟩ := f4
    simp only [List.pairwise_cons, List.mem_cons, List.not_mem_nil, forall_eq_or_imp, or_false, forall_eq] at hP
    have hs1 := hal1.size
    have HF12 := Lib.hid F12
    have HREL : Hid (New1Rel p w _ (.pointer (some ⟨lo12, 0, none⟩)) wx) := Lib.hid (by
      refine ⟨B2.below hbx, lo12, lo6, lo7, lo9, lo10, _, rfl, HF12.out [_, _, _, _, _, _, _, _, _, _, _] rfl, F6, F7, F9, F10, ?_, F4, bon hal1 hbx, by omega, by omega, by omega, by omega, by omega⟩
      omega)
    clear hP hI hF F12 F10 F9 F7 F6 F4 HF12
    go_wp2_with fail
    go_meet
    case rel => exact HREL.out
  case rest =>
    obtain ⟨hbox, b, bh, bu, bf, bk, vn, rfl, hB, hh, hu, hf, hkk, hne, hnm, hbw, lo⟩ := hcut
    have kbox := hbox.cell
    have hzb := hbox.lt
    obtain ⟨κ0, hns⟩ := NS.start hB hh hu hf hkk hne hnm lo
    have HST : Hid (NewSt p w b 0 0 0 0 [] wc) := Lib.hid ⟨κ0, bh, bu, bf, bk, vn, nilS, _, _, _, _, _, hns, rfl, .start, .start, hbw⟩
    clear hns hB hh hu hf hkk hne hnm lo hbw hbox HP HN HN1 HB1 B2 hk2 hb1 hal hal1 hz1 hmm hve hvn
    go_wp2
    go_loopw [30] (NewL1 p w b) (fun i _ => p.rules.length - (intOf i).toNat)
    case atStart => exact ⟨0, by omega, rfl, HST.out⟩
    case round =>
      obtain ⟨k, hk, rfl, hst⟩ := hrel
      obtain ⟨κ, bh, bu, bf, bk, vn, vr, gh, gu, Rh, Ru, L, hns, hL, hRh, hRu, hbw⟩ := hst
      by_cases hlt : k < p.rules.length
      · obtain ⟨b2, off, rfl, hbl, hc⟩ := hcell (by omega)
        obtain ⟨vh, vb, vw, hcc, hsl⟩ := hc k hlt
        obtain ⟨r0, r1, r2, r3, r4, r5⟩ := hcc.below hbw hbl
        have HS := Lib.hid (hsl.below hbw)
        obtain ⟨a3, c3, rfl, -, hl3, -, hch⟩ := hsl.head.form
        obtain ⟨a4, c4, rfl, -, hl4, -, hcb⟩ := hsl.body.form
        obtain ⟨a5, c5, rfl, -, hl5, -, -⟩ := hsl.wts.form
        obtain ⟨W7, hW7⟩ : ∃ W7, W7 = wr.alloc (.cells #[.bool (ixR p.rules k).choice, .slice a3 (ixR p.rules k).head.length c3, .bool (ixR p.rules k).sum, .int .i64 (ixR p.rules k).bound, .slice a4 (ixR p.rules k).body.length c4, .slice a5 (ixR p.rules k).w.length c5] 44) := ⟨_, rfl⟩
        obtain ⟨κ7, hns7⟩ := hns.addBox [.bool (ixR p.rules k).choice, .slice a3 (ixR p.rules k).head.length c3, .bool (ixR p.rules k).sum, .int .i64 (ixR p.rules k).bound, .slice a4 (ixR p.rules k).body.length c4, .slice a5 (ixR p.rules k).w.length c5]
        rw [← hW7] at hns7
        have H7 := Lib.hid hns7
        have ko := hns7.obj.cell
        have fo := hns7.obj.free
        have zo := hns7.obj.lt
        have kx := (hns7.box _ (.head _)).1.cell
        have zx := (hns7.box _ (.head _)).1.lt
        have hbw7 : Below w.heap.size w W7 := by rw [hW7]; exact bal hbw _
        have HR : Hid (∀ w', Below W7.heap.size W7 w' → RuleIs w' (.agg #[.bool (ixR p.rules k).choice, .slice a3 (ixR p.rules k).head.length c3, .bool (ixR p.rules k).sum, .int .i64 (ixR p.rules k).bound, .slice a4 (ixR p.rules k).body.length c4, .slice a5 (ixR p.rules k).w.length c5]) (ixR p.rules k)) := Lib.hid (fun w' hw => ⟨_, _, _, rfl, hsl.below (bon hbw7 hw)⟩)
        have hW7' := hW7.symm
        clear hW7 hns7 hns hc hcell hcc hsl
        go_upto_region 7 with fail
        have kc : ∀ e : Ext W7, ∀ b o, b < W7.heap.size → e.world.cell? ⟨b, o, none⟩ = W7.cell? ⟨b, o, none⟩ := fun e => e.cell
        refine wp_region_tail' 10 (fun _ => True) (own7Φ (ixR p.rules k)) (fun i => i == 8 || i == 9) (by kernel_rfl) (by kernel_rfl) (by kernel_rfl) (fun _ _ => trivial) (own7Φ_later _) ?_
        simp only [List.take_succ_cons, List.take_zero, List.drop_succ_cons, List.drop_zero]
        iterate 1 (refine walkP_late (by kernel_rfl) rfl rfl rfl (fun K hK => ?_); go_big_quiet_op; refine hK _ ?_; clear hK K)
        iterate 7 (refine walkP_head (by kernel_rfl) rfl rfl rfl (fun K hK => ?_); go_big_quiet_op; refine hK _ ?_; clear hK K)
        refine walkP_mem rfl rfl (fun wa hba hFa => ?_) (fun v8 lo8 hi8 l8 g8 h8 => ?_)
        · go_simp
          refine (own_any _ _ _ (HR.out _ hba)).mono ?_
          rintro e w2 ⟨vh, vb, vw, rfl, o1, o2, o3, o4, hb⟩
          exact ⟨_, rfl, hb, vh, vb, vw, rfl, o1, o2, o3, o4⟩
        obtain ⟨_, vh, vb, vw, rfl, -⟩ := h8
        simp only [Act.put, List.setIfInBounds_toArray, List.set_cons_succ, List.set_cons_zero]
        refine walkP_mem rfl rfl (fun wa hba hFa => ?_) (fun v9 lo9 hi9 l9 g9 h9 => ?_)
        · go_simp
          refine ⟨bal (Below.refl _ _) _, rfl, by simp, fun cs he => ?_⟩
          simp only [argsOf, Op.operands, List.map_cons, List.map_nil, Act.eval, List.cons.injEq, and_true] at he
          have he' : Value.agg #[_, _, _, _, _, _] = Value.agg cs.toArray := he
          have he2 := (Value.agg.inj he').symm
          obtain rfl : cs = [_, _, _, _, _, _] := congrArg Array.toList he2
          exact Blk.new wa [_, _, _, _, _, _] _
        obtain ⟨_, rfl, -, -⟩ := h9
        simp only [Act.put, List.setIfInBounds_toArray, List.set_cons_succ, List.set_cons_zero]
        intro wx hbx hF hI hP
        have f9 := hF _ (.head _)
        have f8 := hF _ (.tail _ (.head _))
        obtain ⟨-, -, F9⟩ := f9
        obtain ⟨vh', vb', vw', ee, o1, o2, o3, o4⟩ := f8
        simp only [Value.agg.injEq, Array.mk.injEq, List.cons.injEq, and_true, true_and] at ee
        obtain ⟨rfl, rfl, rfl⟩ := ee
        have HF9 := Lib.hid (F9 [.bool (ixR p.rules k).choice, vh, .bool (ixR p.rules k).sum, .int .i64 (ixR p.rules k).bound, vb, vw] rfl)
        clear F9 hP hI hF
        obtain ⟨κx, hro, hnsx⟩ := H7.out.fresh hbx
        have hq : RuleOwn κx w.heap.size wx (ixR p.rules k, vh, vb, vw) := ⟨o1.mono (by have := hbw7.size; omega), o2.mono (by have := hbw7.size; omega), o3.mono (by have := hbw7.size; omega), o4, .fresh o1.1 (fun i hi => hro i (by omega)), .fresh o2.1 (fun i hi => hro i (by omega)), .fresh o3.1 (fun i hi => hro i (by omega))⟩
        have hLl : L.length = k := by have := congrArg List.length hL; simpa [hk] using this
        have hwx : w.heap.size ≤ wx.heap.size := (bon hbw7 hbx).size
        have hrl := VP.rules
        have hLb : L.length + 1 ≤ 40000 := by omega
        clear hLl
        have one : ∀ u ∈ cells6 (ixR p.rules k, vh, vb, vw), u.oneCell' = true := by
          obtain ⟨_, _, rfl⟩ := o1.1.form
          obtain ⟨_, _, rfl⟩ := o2.1.form
          obtain ⟨_, _, rfl⟩ := o3.1.form
          intro u hu
          simp only [cells6, List.mem_cons, List.not_mem_nil, or_false] at hu
          rcases hu with rfl | rfl | rfl | rfl | rfl | rfl <;> rfl
        refine ⟨rfl, rfl, wp_appendR _ _ 24 Try.underlying24 rfl w.heap.size vr L (ixR p.rules k, vh, vb, vw) rfl hnsx.rules.row lo9 1 rfl HF9.out one (by omega) hwx ?_⟩
        intro g cap w3 hown hgr hloc hlt3
        obtain ⟨κ3, hb3, hns3⟩ := hnsx.pushRule hq (by omega) hown hgr hloc
        have hbw3 := (belowRow (bon hbw7 hbx) hnsx.rules.row hgr hwx).setCell (p := ⟨b, 3, none⟩) hnsx.lo.1 (.slice (some ⟨g, 0, none⟩) (L.length + 1) cap)
        have f3 := hb3.free
        have k3 := hb3.cell
        refine ⟨trivial, ?_⟩
        iterate 4 (refine ⟨rfl, rfl, ?_⟩; go_simp)
        refine ⟨rfl, rfl, ?_⟩
        go_simp
        simp only [tailW]
        have hLn : (L ++ [(ixR p.rules k, vh, vb, vw)]).map (·.1) = p.rules.take (k + 1) := by
          rw [List.map_append, hL, List.take_add_one]; simp [ixR, List.getElem?_eq_getElem hlt]
        have kx8 := (hns3.box _ (.head _)).1.cell
        dsimp only at kx8
        have HST2 : Hid (NewSt p w b (k + 1) k 0 0 [(wr.heap.size, [.bool (ixR p.rules k).choice, .slice a3 (ixR p.rules k).head.length c3, .bool (ixR p.rules k).sum, .int .i64 (ixR p.rules k).bound, .slice a4 (ixR p.rules k).body.length c4, .slice a5 (ixR p.rules k).w.length c5])] (w3.setCell ⟨b, 3, none⟩ (.slice (some ⟨g, 0, none⟩) (L.length + 1) cap))) :=
          Lib.hid ⟨κ3, bh, bu, bf, bk, vn, _, gh, gu, Rh, Ru, _, hns3, hLn, hRh, hRu, hbw3⟩
        obtain ⟨hLx, hX⟩ : ∃ X : List (Nat × List Value), X = [(wr.heap.size, [.bool (ixR p.rules k).choice, .slice a3 (ixR p.rules k).head.length c3, .bool (ixR p.rules k).sum, .int .i64 (ixR p.rules k).bound, .slice a4 (ixR p.rules k).body.length c4, .slice a5 (ixR p.rules k).w.length c5])] := ⟨_, rfl⟩
        rw [← hX] at HST2
        generalize w3.setCell ⟨b, 3, none⟩ (.slice (some ⟨g, 0, none⟩) (L.length + 1) cap) = W8 at kx8 HST2 ⊢
        clear hbw3 hns3 f3 k3 hb3 hlt3 hloc hgr hown one hq hnsx HF9 o1 o2 o3 hbx kc HR H7 ko fo kx hbw7 HS r0 r1 r2 r3 r4 r5 hbw hRh hRu hwx hrl hro zx zo hLn hL hW7'
        go_wp2
        obtain ⟨wo, hwo⟩ : ∃ wo : World, wo = wr := ⟨_, rfl⟩
        rw [← hwo] at kx8 hX ⊢
        clear hwo
        go_loopw [53] (NewL2 p w b k hLx) (fun i _ => (ixR p.rules k).head.length - (intOf i).toNat)
        case atStart => exact ⟨0, by omega, rfl, HST2.out⟩
        case round =>
          obtain ⟨j, hj, rfl, κ, bh, bu, bf, bk, vn, vr, gh, gu, Rh, Ru, L, hns, hL, hRh, hRu, hbw⟩ := hrel
          by_cases hltj : j < (ixR p.rules k).head.length
          · obtain ⟨b3, off3, rfl, hbl3, hc3⟩ := hch (by omega)
            have hk1 := (bcell hbw _ _ hbl3).trans (hc3 j hltj)
            clear hch hcb hc3
            have ko := hns.obj.cell
            have zo := hns.obj.lt
            have kc : ∀ e : Ext wr, ∀ b o, b < wr.heap.size → e.world.cell? ⟨b, o, none⟩ = wr.cell? ⟨b, o, none⟩ := fun e => e.cell
            have kb : ∀ e : KeepB wr b, ∀ o, e.world.cell? ⟨b, o, none⟩ = wr.cell? ⟨b, o, none⟩ := fun e => e.cell
            obtain ⟨vv, hvv⟩ : ∃ vv, vv = (gh (ix (ixR p.rules k).head j)).getD nilS := ⟨_, rfl⟩
            have hlk : ∀ e : Ext wr, (Instr.lookup 50 (.map (some bh)) (.int .i64 (ix (ixR p.rules k).head j)) false).run Try.prog e.world = .ok vv e.world := fun e => by rw [hvv]; exact (hns.heads.map.below e.below).lookup kvInt Try.underlying50 Try.underlying3 (Try.zeroValue23 e.world) (ix (ixR p.rules k).head j)
            have HNS := Lib.hid hns
            have HVV := Lib.hid hvv
            have HBW := Lib.hid hbw
            have HRR := Lib.hid hRh
            clear hns hvv hbw
            go_upto_region 11 with fail
            refine wp_region_tail' 15 (fun w' => ∃ e : KeepB wr b, w' = e.world) bld1Φ (fun i => i == 14) (by kernel_rfl) (by kernel_rfl) (by kernel_rfl) (fun w' hb => ⟨⟨w', fun o => bcell hb _ _ zo⟩, rfl⟩) bld1Φ_later ?_
            simp only [List.take_succ_cons, List.take_zero, List.drop_succ_cons, List.drop_zero]
            iterate 6 (refine walkP_late (by kernel_rfl) rfl rfl rfl (fun K hK => ?_); go_big_quiet_op; refine hK _ ?_; clear hK K)
            iterate 8 (refine walkP_head (by kernel_rfl) rfl rfl rfl (fun K hK => ?_); go_big_quiet_op; refine hK _ ?_; clear hK K)
            refine walkP_mem rfl rfl (fun wa hba hFa => ?_) (fun v9 lo9 hi9 l9 g9 h9 => ?_)
            · go_simp
              refine ⟨bal (Below.refl _ _) _, rfl, by simp, fun x he => ?_⟩
              simp only [argsOf, Op.operands, List.map_cons, List.map_nil, Act.eval, List.cons.injEq, and_true] at he
              obtain rfl : x = Value.int .i64 k := he.symm
              exact Blk.new wa [_] _
            obtain ⟨_, rfl, -, -⟩ := h9
            simp only [Act.put, List.setIfInBounds_toArray, List.set_cons_succ, List.set_cons_zero]
            intro wx hbx hF hI hP
            obtain ⟨-, -, F9⟩ := hF _ (.head _)
            have HF9 := Lib.hid (F9 _ rfl)
            clear F9 hP hI hF
            have hnsx := HNS.out.below hbx
            have hwx : w.heap.size ≤ wx.heap.size := (bon HBW.out hbx).size
            have hlen := HRR.out.len (ix (ixR p.rules k).head j)
            have hrl := VP.rules
            refine ⟨rfl, rfl, wp_appendI _ _ 23 Try.underlying23 rfl w.heap.size vv (Rh (ix (ixR p.rules k).head j)) k rfl (by rw [HVV.out]; exact hnsx.heads.row (ix (ixR p.rules k).head j)) lo9 1 rfl HF9.out (by omega) hwx ?_⟩
            intro g cap w3 hown hgr hloc hlt3
            rw [HVV.out] at hgr hloc
            have hmx := hnsx.heads.map.same (hnsx.heads.far hnsx.heads.mapk (fun x e => by cases e) (ix (ixR p.rules k).head j) hgr hnsx.heads.map.lt)
            have hob := hnsx.heads.far hnsx.objk (fun x e => by cases e) (ix (ixR p.rules k).head j) hgr hnsx.obj.lt
            have hne : bh ≠ b := fun e => by subst e; exact absurd rfl (hnsx.heads.map.blk hnsx.obj)
            refine ⟨⟨⟨w3, fun o => (World.cell?_of_block (a := ⟨b, o, none⟩) hob).trans (bcell hbx _ _ zo)⟩, rfl⟩, rfl, rfl, ?_⟩
            refine wp_mput bh (ix (ixR p.rules k).head j) (.slice (some ⟨g, 0, none⟩) ((Rh (ix (ixR p.rules k).head j)).length + 1) cap) kvInt 50 3 23 Try.underlying50 Try.underlying3 _ _ _ rfl rfl rfl rfl hmx ?_
            intro w4 hm4 hg4 hs4
            refine ⟨⟨⟨w4, fun o => (World.cell?_of_block (a := ⟨b, o, none⟩) (hg4.block b (Nat.lt_of_lt_of_le hnsx.obj.lt hgr.size) (fun e => hne (Option.some.inj e).symm))).trans ((World.cell?_of_block (a := ⟨b, o, none⟩) hob).trans (bcell hbx _ _ zo))⟩, rfl⟩, ?_⟩
            simp only [tailW]
            obtain ⟨κ4, g4, hns4⟩ := hnsx.pushHead (ix (ixR p.rules k).head j) k (by unfold InI; omega) (by omega) hown hgr hloc hm4 hg4
            have hbw4 := belowBlock (belowRow (bon HBW.out hbx) (hnsx.heads.row (ix (ixR p.rules k).head j)).1.1 hgr hwx) hg4 (by have := hgr.size; omega) (by have := hnsx.lo; omega)
            clear hob hmx hown hgr hloc hlt3 hm4 hg4 hs4 HF9 hnsx hbx hwx HVV HNS HBW HRR hlk kc kb ko zo
            have HST3 : Hid (NewSt p w b (k + 1) k (j + 1) 0 hLx w4) := Lib.hid ⟨κ4, bh, bu, bf, bk, vn, vr, g4, gu, _, Ru, L, hns4, hL, hRh.push hltj rfl (ordered_new (increasing_ordered (VP.head k hlt)) hltj), hRu, hbw4⟩
            clear hns4 hbw4 hRh hRu hL
            go_wp2
            first
              | (go_roundw
                 case rel => (exact ⟨j + 1, by omega, by go_num, HST3.out⟩)
                 case measure => (simp [intOf]; omega))
              | (refine ⟨?_, ?_⟩
                 · (exact ⟨j + 1, by omega, by go_num, HST3.out⟩)
                 · (simp [intOf]; omega))
          · obtain rfl : j = (ixR p.rules k).head.length := by omega
            have kxb := (hns.box (wo.heap.size, [.bool (ixR p.rules k).choice, .slice a3 (ixR p.rules k).head.length c3, .bool (ixR p.rules k).sum, .int .i64 (ixR p.rules k).bound, .slice a4 (ixR p.rules k).body.length c4, .slice a5 (ixR p.rules k).w.length c5]) (by rw [hX]; exact .head _)).1.cell
            dsimp only at kxb
            have HST3 : Hid (NewSt p w b (k + 1) k (ixR p.rules k).head.length 0 hLx wr) := Lib.hid ⟨κ, bh, bu, bf, bk, vn, vr, gh, gu, Rh, Ru, L, hns, hL, hRh, hRu, hbw⟩
            clear hns hL hRh hRu hbw hch kx8 HST2
            go_wp2
            clear kxb
            obtain ⟨wo2, hwo2⟩ : ∃ wo2 : World, wo2 = wr := ⟨_, rfl⟩
            rw [← hwo2] at HST3 ⊢
            clear hwo2
            go_loopw [77] (NewL3 p w b k hLx) (fun i _ => (ixR p.rules k).body.length - (intOf i).toNat)
            case atStart => exact ⟨0, by omega, rfl, HST3.out⟩
            case round =>
              obtain ⟨j, hj, rfl, κ, bh, bu, bf, bk, vn, vr, gh, gu, Rh, Ru, L, hns, hL, hRh, hRu, hbw⟩ := hrel
              by_cases hltj : j < (ixR p.rules k).body.length
              · obtain ⟨b3, off3, rfl, hbl3, hc3⟩ := hcb (by omega)
                have hk1 := (bcell hbw _ _ hbl3).trans (hc3 j hltj)
                clear hcb hc3 HST3
                by_cases hpos : 0 < ix (ixR p.rules k).body j
                · have hpd : decide (0 < ix (ixR p.rules k).body j) = true := decide_eq_true hpos
                  have ko := hns.obj.cell
                  have zo := hns.obj.lt
                  have kc : ∀ e : Ext wr, ∀ b o, b < wr.heap.size → e.world.cell? ⟨b, o, none⟩ = wr.cell? ⟨b, o, none⟩ := fun e => e.cell
                  have kb : ∀ e : KeepB wr b, ∀ o, e.world.cell? ⟨b, o, none⟩ = wr.cell? ⟨b, o, none⟩ := fun e => e.cell
                  obtain ⟨vv, hvv⟩ : ∃ vv, vv = (gu (ix (ixR p.rules k).body j)).getD nilS := ⟨_, rfl⟩
                  have hlk : ∀ e : Ext wr, (Instr.lookup 50 (.map (some bu)) (.int .i64 (ix (ixR p.rules k).body j)) false).run Try.prog e.world = .ok vv e.world := fun e => by rw [hvv]; exact (hns.uses.map.below e.below).lookup kvInt Try.underlying50 Try.underlying3 (Try.zeroValue23 e.world) (ix (ixR p.rules k).body j)
                  have HNS := Lib.hid hns
                  have HVV := Lib.hid hvv
                  have HBW := Lib.hid hbw
                  have HRR := Lib.hid hRu
                  clear hns hvv hbw
                  go_upto_region 17 with fail
                  refine wp_region_tail' 15 (fun w' => ∃ e : KeepB wr b, w' = e.world) bld1Φ (fun i => i == 14) (by kernel_rfl) (by kernel_rfl) (by kernel_rfl) (fun w' hb => ⟨⟨w', fun o => bcell hb _ _ zo⟩, rfl⟩) bld1Φ_later ?_
                  simp only [List.take_succ_cons, List.take_zero, List.drop_succ_cons, List.drop_zero]
                  iterate 6 (refine walkP_late (by kernel_rfl) rfl rfl rfl (fun K hK => ?_); go_big_quiet_op; refine hK _ ?_; clear hK K)
                  iterate 8 (refine walkP_head (by kernel_rfl) rfl rfl rfl (fun K hK => ?_); go_big_quiet_op; refine hK _ ?_; clear hK K)
                  refine walkP_mem rfl rfl (fun wa hba hFa => ?_) (fun v9 lo9 hi9 l9 g9 h9 => ?_)
                  · go_simp
                    refine ⟨bal (Below.refl _ _) _, rfl, by simp, fun x he => ?_⟩
                    simp only [argsOf, Op.operands, List.map_cons, List.map_nil, Act.eval, List.cons.injEq, and_true] at he
                    obtain rfl : x = Value.int .i64 k := he.symm
                    exact Blk.new wa [_] _
                  obtain ⟨_, rfl, -, -⟩ := h9
                  simp only [Act.put, List.setIfInBounds_toArray, List.set_cons_succ, List.set_cons_zero]
                  intro wx hbx hF hI hP
                  obtain ⟨-, -, F9⟩ := hF _ (.head _)
                  have HF9 := Lib.hid (F9 _ rfl)
                  clear F9 hP hI hF
                  have hnsx := HNS.out.below hbx
                  have hwx : w.heap.size ≤ wx.heap.size := (bon HBW.out hbx).size
                  have hlen := HRR.out.len (ix (ixR p.rules k).body j)
                  have hrl := VP.rules
                  refine ⟨rfl, rfl, wp_appendI _ _ 23 Try.underlying23 rfl w.heap.size vv (Ru (ix (ixR p.rules k).body j)) k rfl (by rw [HVV.out]; exact hnsx.uses.row (ix (ixR p.rules k).body j)) lo9 1 rfl HF9.out (by omega) hwx ?_⟩
                  intro g cap w3 hown hgr hloc hlt3
                  rw [HVV.out] at hgr hloc
                  have hmx := hnsx.uses.map.same (hnsx.uses.far hnsx.uses.mapk (fun x e => by cases e) (ix (ixR p.rules k).body j) hgr hnsx.uses.map.lt)
                  have hob := hnsx.uses.far hnsx.objk (fun x e => by cases e) (ix (ixR p.rules k).body j) hgr hnsx.obj.lt
                  have hne : bu ≠ b := fun e => by subst e; exact absurd rfl (hnsx.uses.map.blk hnsx.obj)
                  refine ⟨⟨⟨w3, fun o => (World.cell?_of_block (a := ⟨b, o, none⟩) hob).trans (bcell hbx _ _ zo)⟩, rfl⟩, rfl, rfl, ?_⟩
                  refine wp_mput bu (ix (ixR p.rules k).body j) (.slice (some ⟨g, 0, none⟩) ((Ru (ix (ixR p.rules k).body j)).length + 1) cap) kvInt 50 3 23 Try.underlying50 Try.underlying3 _ _ _ rfl rfl rfl rfl hmx ?_
                  intro w4 hm4 hg4 hs4
                  refine ⟨⟨⟨w4, fun o => (World.cell?_of_block (a := ⟨b, o, none⟩) (hg4.block b (Nat.lt_of_lt_of_le hnsx.obj.lt hgr.size) (fun e => hne (Option.some.inj e).symm))).trans ((World.cell?_of_block (a := ⟨b, o, none⟩) hob).trans (bcell hbx _ _ zo))⟩, rfl⟩, ?_⟩
                  simp only [tailW]
                  obtain ⟨κ4, g4, hns4⟩ := hnsx.pushUse (ix (ixR p.rules k).body j) k (by unfold InI; omega) (by omega) hown hgr hloc hm4 hg4
                  have hbw4 := belowBlock (belowRow (bon HBW.out hbx) (hnsx.uses.row (ix (ixR p.rules k).body j)).1.1 hgr hwx) hg4 (by have := hgr.size; omega) (by have := hnsx.lo; omega)
                  clear hob hmx hown hgr hloc hlt3 hm4 hg4 hs4 HF9 hnsx hbx hwx HVV HNS HBW HRR hlk kc kb ko zo
                  have HST4 : Hid (NewSt p w b (k + 1) k (ixR p.rules k).head.length (j + 1) hLx w4) := Lib.hid ⟨κ4, bh, bu, bf, bk, vn, vr, gh, g4, Rh, _, L, hns4, hL, hRh, hRu.push hltj hpd (ordered_new (VP.body k hlt) hltj), hbw4⟩
                  clear hns4 hbw4 hRh hRu hL
                  go_wp2
                  first
                    | (go_roundw
                       case rel => (exact ⟨j + 1, by omega, by go_num, HST4.out⟩)
                       case measure => (simp [intOf]; omega))
                    | (refine ⟨?_, ?_⟩
                       · (exact ⟨j + 1, by omega, by go_num, HST4.out⟩)
                       · (simp [intOf]; omega))
                · have hpd : decide (0 < ix (ixR p.rules k).body j) = false := decide_eq_false hpos
                  have HST4 : Hid (NewSt p w b (k + 1) k (ixR p.rules k).head.length (j + 1) hLx wr) := Lib.hid ⟨κ, bh, bu, bf, bk, vn, vr, gh, gu, Rh, Ru, L, hns, hL, hRh, hRu.skip hltj hpd, hbw⟩
                  clear hns hRh hRu hL hbw
                  go_wp2
                  first
                    | (go_roundw
                       case rel => (exact ⟨j + 1, by omega, by go_num, HST4.out⟩)
                       case measure => (simp [intOf]; omega))
                    | (refine ⟨?_, ?_⟩
                       · (exact ⟨j + 1, by omega, by go_num, HST4.out⟩)
                       · (simp [intOf]; omega))
              · obtain rfl : j = (ixR p.rules k).body.length := by omega
                have HST4 : Hid (NewSt p w b (k + 1) (k + 1) 0 0 [] wr) := Lib.hid ⟨κ, bh, bu, bf, bk, vn, vr, gh, gu, Rh, Ru, L, hns.dropBox, hL, hRh.next, hRu.next, hbw⟩
                clear hns hRh hRu hL hbw
                go_wp2
                first
                  | (go_roundw
                     case rel => (exact ⟨k + 1, by omega, by go_num, HST4.out⟩)
                     case measure => (simp [intOf]; omega))
                  | (refine ⟨?_, ?_⟩
                     · (exact ⟨k + 1, by omega, by go_num, HST4.out⟩)
                     · (simp [intOf]; omega))
      · obtain rfl : k = p.rules.length := by omega
        have HST2 : Hid (NewSt p w b p.rules.length p.rules.length 0 0 [] wr) := Lib.hid ⟨κ, bh, bu, bf, bk, vn, vr, gh, gu, Rh, Ru, L, hns, hL, hRh, hRu, hbw⟩
        clear hns hRh hRu hL hbw
        go_wp2
        refine bodyPost_ret (v := .tuple #[.pointer (some ⟨b, 0, none⟩), .int .i64 0]) ?_ rfl ?_
        · simp [results, Try.results12, go_sem]
        · exact ⟨b, rfl, HST2.out⟩

end Go.Proofs.Ytkjpnpkmnpofgaa
