/- My texts PfD, Vf5, Cut1, Cut0, Cut2, merged. -/
import Derived.Test.YteblddnoegbalaaGreatM19
import Derived.Test.YteblddnoegbalaaGreatM11
import Derived.Test.YteblddnoegbalaaGreatM08
import Derived.Test.YteblddnoegbalaaGreatM07
import Derived.Test.YteblddnoegbalaaGreatM06
import Derived.Test.YteblddnoegbalaaGreatM05
import Derived.Test.YteblddnoegbalaaGreatM04
import Derived.Test.YteblddnoegbalaaGreatM03
import Derived.Test.YteblddnoegbalaaGreatM00
import Derived.Test.YteblddnoegbalaaGreatProg
import Derived.WalkKit
import Derived.Lib.Hide
import Derived.Deep.QuietTactic
import Derived.BigQuiet
import Derived.WalkSpells
import Derived.Lib.SliceRun
import Derived.MapKept
import Derived.Maps.OwnSet
import Derived.Maps.OwnOps
import Derived.Test.YteblddnoegbalaaGreatM02
import Derived.Test.YteblddnoegbalaaGreatM01
import Derived.Deep.AppendLies
import Derived.Lib.Bytealg
import Derived.Deep.DeepCutAuto
import Derived.RangeFuncNested
import Derived.RangeFuncBound
import Derived.RangeFuncCalls
import Derived.RangeFuncLeaves
import Derived.OwnWalkIn
import Derived.TacticsInMore
import Derived.LoopNIn
import Derived.LoopIn
import Derived.Stop.RegionWithIn
import Derived.Shelf.Abstract
import Derived.Sort.QuietThIn
import Derived.RangeFuncBox
import Derived.Maps.OwnIn
import Derived.Lib.SlicesCompact
import Derived.Shelf.Sort.Plain
import Derived.Shelf.Slices.CompactI
import Derived.Shelf.Slices.In.SortNone
import Derived.Shelf.Strconv.Itoa3
import Derived.Shelf.Strings.BuilderK
import Derived.Shelf.Slices.SearchI
import Derived.Shelf.Slices.Empties
import Derived.Sort.OwnSortedInts
import Derived.Lib.RowBridge
import Derived.Test.YteblddnoegbalaaGreatM10
import Derived.Test.YteblddnoegbalaaGreatM09
import Derived.Maps.RangeWalk
import Derived.Deep.OwnRows
import Derived.Test.YteblddnoegbalaaGreatM14
import Derived.Test.YteblddnoegbalaaGreatM13
import Derived.Test.YteblddnoegbalaaGreatM12
import Derived.Laws.EntriesVeiled
import Derived.Deep.AppendSrc
import Derived.Deep.RegionWith
import Derived.Test.YteblddnoegbalaaGreatM15
import Derived.Deep.LoopGhost
import Derived.Deep.DrawnRows
import Derived.Test.YteblddnoegbalaaGreatM18
import Derived.Test.YteblddnoegbalaaGreatM16
import Derived.Deep.DeepMust
import Derived.Test.YteblddnoegbalaaGreatM17
import Derived.ProofKit
import Derived.OpenShut
import Derived.ChangeArms
import Derived.SizedLaws
import Derived.Test.YteblddnoegbalaaGreatM20
import Derived.Laws.Cover1
import Derived.Lib.AppendZeros

namespace Go.Proofs.YteblddnoegbalaaGreat
open Go.RowKit
def opCell (o : OP) : Nat → Value
  | 0 => .int .u8 o.kind
  | _ => .int .i64 o.n
def OpI (o : OP) : Prop := (0 ≤ o.kind ∧ o.kind ≤ 255) ∧ InI o.n
def OpsIs (w : World) (v : Value) (l : List OP) : Prop := Rows w v 2 16 l.length (fun i => opCell (ixO l i)) ∧ ∀ o ∈ l, OpI o
theorem OpsIs.below {w w' : World} {v : Value} {l : List OP} (h : OpsIs w v l) (hb : Below w.heap.size w w') : OpsIs w' v l := ⟨h.1.below hb, h.2⟩
def OpCells (w : World) (b o : Nat) (y : OP) : Prop := w.cell? ⟨b, o, none⟩ = some (.int .u8 y.kind) ∧ w.cell? ⟨b, o + 1, none⟩ = some (.int .i64 y.n)
theorem OpsIs.form {w : World} {v : Value} {l : List OP} (h : OpsIs w v l) : ∃ a cap, v = .slice a l.length cap ∧ l.length ≤ cap ∧ l.length ≤ 1000000000000000 ∧ OpsIs w (.slice a l.length cap) l ∧
    (0 < l.length → ∃ b off, a = some ⟨b, off, none⟩ ∧ b < w.heap.size ∧ ∀ i, i < l.length → OpCells w b (off + i * 2) (ixO l i)) := by
  have h0 := h
  obtain ⟨⟨a, cap, rfl, h1, hm, h2, h3⟩, h4⟩ := h
  refine ⟨a, cap, rfl, h1, by omega, h0, fun hp => ?_⟩
  obtain ⟨b, off, e, hl, hc⟩ := h3 hp
  exact ⟨b, off, e, hl, fun i hi => ⟨hc i hi 0 (by omega), hc i hi 1 (by omega)⟩⟩
theorem nil_ops (w : World) : OpsIs w (.slice none 0 0) [] := ⟨⟨none, 0, rfl, Nat.le_refl _, by unfold maxLen; omega, by simp, fun h => absurd h (by simp)⟩, fun y hy => by cases hy⟩
theorem ixO_mem {l : List OP} {i : Nat} (hi : i < l.length) : ixO l i ∈ l := by
  simp only [ixO, List.getD_eq_getElem?_getD, List.getElem?_eq_getElem hi, Option.getD_some]
  exact List.getElem_mem hi
def stCell (s : ST) (vl vk vs vo : Value) : Nat → Value
  | 0 => .int .u8 s.kind
  | 1 => vl
  | 2 => vk
  | 3 => .int .i64 s.c.bound
  | 4 => vs
  | _ => vo
structure STSl (w : World) (s : ST) (vl vk vs vo : Value) : Prop where
  kind : 0 ≤ s.kind ∧ s.kind ≤ 255
  pb : PBSl w s.c vl vk
  set : Ints w vs s.set
  ops : OpsIs w vo s.ops
theorem STSl.below {w w' : World} {s : ST} {vl vk vs vo : Value} (h : STSl w s vl vk vs vo) (hb : Below w.heap.size w w') : STSl w' s vl vk vs vo := ⟨h.kind, h.pb.below hb, h.set.below hb, h.ops.below hb⟩
def STIs (w : World) (v : Value) (s : ST) : Prop := ∃ vl vk vs vo, v = .agg #[.int .u8 s.kind, vl, vk, .int .i64 s.c.bound, vs, vo] ∧ STSl w s vl vk vs vo
theorem STIs.below {w w' : World} {v : Value} {s : ST} (h : STIs w v s) (hb : Below w.heap.size w w') : STIs w' v s := let ⟨a, b, c, d, e, h1⟩ := h; ⟨a, b, c, d, e, h1.below hb⟩
def STsIs (w : World) (v : Value) (l : List ST) : Prop :=
  ∃ fl fk fs fo : Nat → Value, Rows w v 6 112 l.length (fun i => stCell (ixS36 l i) (fl i) (fk i) (fs i) (fo i)) ∧ ∀ i, i < l.length → STSl w (ixS36 l i) (fl i) (fk i) (fs i) (fo i)
theorem STsIs.below {w w' : World} {v : Value} {l : List ST} (h : STsIs w v l) (hb : Below w.heap.size w w') : STsIs w' v l :=
  let ⟨a, b, c, d, e, h1⟩ := h; ⟨a, b, c, d, e.below hb, fun i hi => (h1 i hi).below hb⟩
def STCells (w : World) (b o : Nat) (s : ST) (vl vk vs vo : Value) : Prop :=
  w.cell? ⟨b, o, none⟩ = some (.int .u8 s.kind) ∧ w.cell? ⟨b, o + 1, none⟩ = some vl ∧ w.cell? ⟨b, o + 2, none⟩ = some vk ∧ w.cell? ⟨b, o + 3, none⟩ = some (.int .i64 s.c.bound) ∧ w.cell? ⟨b, o + 4, none⟩ = some vs ∧ w.cell? ⟨b, o + 5, none⟩ = some vo
theorem STsIs.form {w : World} {v : Value} {l : List ST} (h : STsIs w v l) : ∃ a cap, v = .slice a l.length cap ∧ l.length ≤ cap ∧ l.length ≤ 1000000000000000 ∧ STsIs w (.slice a l.length cap) l ∧
    (0 < l.length → ∃ b off, a = some ⟨b, off, none⟩ ∧ b < w.heap.size ∧ ∀ i, i < l.length → ∃ vl vk vs vo, STCells w b (off + i * 6) (ixS36 l i) vl vk vs vo ∧ STSl w (ixS36 l i) vl vk vs vo) := by
  have h0 := h
  obtain ⟨fl, fk, fs, fo, ⟨a, cap, rfl, h1, hm, h2, h3⟩, h4⟩ := h
  refine ⟨a, cap, rfl, h1, by omega, h0, fun hp => ?_⟩
  obtain ⟨b, off, e, hl, hc⟩ := h3 hp
  exact ⟨b, off, e, hl, fun i hi => ⟨_, _, _, _, ⟨hc i hi 0 (by omega), hc i hi 1 (by omega), hc i hi 2 (by omega), hc i hi 3 (by omega), hc i hi 4 (by omega), hc i hi 5 (by omega)⟩, h4 i hi⟩⟩
def PFIs (w : World) (v : Value) (pf : PF) : Prop := ∃ vg vs, v = .agg #[vg, vs] ∧ PBsIs w vg pf.given ∧ STsIs w vs pf.steps
theorem PFIs.below {w w' : World} {v : Value} {pf : PF} (h : PFIs w v pf) (hb : Below w.heap.size w w') : PFIs w' v pf := let ⟨a, b, e, h1, h2⟩ := h; ⟨a, b, e, h1.below hb, h2.below hb⟩
attribute [local go_sem] memUpon
structure KSt (w0 : World) (p : GP) (kb : Nat) (vn vs vr vm v : Value) (L : List CQ) (W : World) : Prop where
  box : Blk W kb [.int .i64 p.n, vn, vs, vr, vm, v] 86
  prog : ProgIs w0 (.agg #[.int .i64 p.n, vn, vs, vr, vm]) p
  row : RowP w0 v L W
  below : Below w0.heap.size w0 W
  base : w0.heap.size ≤ kb
theorem KSt.on {w0 W W' : World} {p : GP} {kb : Nat} {vn vs vr vm v : Value} {L : List CQ} (h : KSt w0 p kb vn vs vr vm v L W) (hb : Below W.heap.size W W') : KSt w0 p kb vn vs vr vm v L W' := ⟨h.box.below hb, h.prog, h.row.below hb, bon h.below hb, h.base⟩
def KS (w0 : World) (p : GP) (kb : Nat) (db : List PBC) (W : World) : Prop := ∃ vn vs vr vm v L, KSt w0 p kb vn vs vr vm v L W ∧ L.map (·.1) = db
theorem KS.on {w0 W W' : World} {p : GP} {kb : Nat} {db : List PBC} (h : KS w0 p kb db W) (hb : Below W.heap.size W W') : KS w0 p kb db W' := by
  obtain ⟨vn, vs, vr, vm, v, L, h1, h2⟩ := h
  exact ⟨vn, vs, vr, vm, v, L, h1.on hb, h2⟩
theorem KS.below {w0 W : World} {p : GP} {kb : Nat} {db : List PBC} (h : KS w0 p kb db W) : Below w0.heap.size w0 W := by
  obtain ⟨vn, vs, vr, vm, v, L, h1, h2⟩ := h
  exact h1.below
theorem one_pbs {w : World} {lo : Nat} {c : PBC} {vl vk : Value} (hb : Blk w lo [vl, vk, .int .i64 c.bound] 25) (h : PBSl w c vl vk) : PBsIs w (.slice (some ⟨lo, 0, none⟩) 1 1) [c] := by
  refine ⟨fun _ => vl, fun _ => vk, ⟨_, 1, rfl, Nat.le_refl _, by unfold maxLen; omega, by simp, fun _ => ⟨lo, 0, rfl, hb.lt, fun i hi j hj => ?_⟩⟩, fun i hi => ?_⟩
  · obtain rfl : i = 0 := by simp at hi; omega
    dsimp only
    rw [hb.cell]
    rcases (show j = 0 ∨ j = 1 ∨ j = 2 by omega) with rfl | rfl | rfl <;> rfl
  · obtain rfl : i = 0 := by simp at hi; omega
    exact h
def ftΦ (b : Bool) (vl vk bd : Value) (T N : Int) (i : Nat) (_ : List Value) (v : Value) (lo hi : Nat) (w : World) : Prop :=
  (i = 1 ∧ v = .bool b) ∨ (i = 4 ∧ v = .slice (some ⟨lo, 0, none⟩) 1 1 ∧ lo < hi ∧ Blk w lo [vl, vk, bd] 25) ∨ (i = 5 ∧ v = .int .i64 T) ∨ (i = 10 ∧ v = .int .i64 N)
theorem ftΦ_later (b : Bool) (vl vk bd : Value) (T N : Int) : ∀ i args v lo hi w w', ftΦ b vl vk bd T N i args v lo hi w → Below w.heap.size w w' → ftΦ b vl vk bd T N i args v lo hi w' := fun _ _ _ _ _ _ _ h hb => by
  rcases h with h | ⟨e, h1, h2, h3⟩ | h
  · exact .inl h
  · exact .inr (.inl ⟨e, h1, h2, h3.below hb⟩)
  · exact .inr (.inr h)
set_option maxHeartbeats 4000000 in
set_option maxRecDepth 100000 in
theorem kfits_any {w0 W : World} {p : GP} {kb : Nat} {vn vs vr vm v : Value} {L : List CQ} (h : KSt w0 p kb vn vs vr vm v L W) (hv : validE p = 0) (u : Value) (c : PBC) (hc : PBIs W u c) :
    Calls Tryz.prog 74 #[.pointer (some ⟨kb, 0, none⟩), u] W fun e w' => e = .returned (.bool (fitsB p c)) ∧ Below W.heap.size W w' := by
  have hc0 := hc
  obtain ⟨vl, vk, rfl, hL, hK, hbd⟩ := hc
  obtain ⟨a2, c2, rfl, -⟩ := id hL.form
  obtain ⟨a3, c3, rfl, -⟩ := id hK.form
  have hal := bal (Below.refl W.heap.size W) (.cells #[.slice a2 c.lits.length c2, .slice a3 c.coefs.length c3, .int .i64 c.bound] 25)
  have HP := Lib.hid (hc0.below hal)
  have HSL : Hid (PBSl (W.alloc (.cells #[.slice a2 c.lits.length c2, .slice a3 c.coefs.length c3, .int .i64 c.bound] 25)) c (.slice a2 c.lits.length c2) (.slice a3 c.coefs.length c3)) := Lib.hid ⟨hL.below hal, hK.below hal, hbd⟩
  have HS := Lib.hid (h.on hal)
  have HB := Lib.hid hal
  have HX := Lib.hid (Blk.new W [.slice a2 c.lits.length c2, .slice a3 c.coefs.length c3, .int .i64 c.bound] 25)
  have HVE := Lib.hid hv
  clear h hc0 hL hK hbd hal hv
  go_enter Tryz.func74, Tryz.ntmps74
  go_upto_region 1 with fail
  generalize W.alloc (.cells #[.slice a2 c.lits.length c2, .slice a3 c.coefs.length c3, .int .i64 c.bound] 25) = W0 at *
  have zx := HX.out.lt
  have zk := HS.out.box.lt
  have ex1 : ∀ e : Ext W0, ∀ o, e.world.cell? ⟨W.heap.size, o, none⟩ = _ := fun e o => (bcell e.below _ o zx).trans (HX.out.cell o)
  have ex2 : ∀ e : Ext W0, ∀ o, e.world.cell? ⟨kb, o, none⟩ = _ := fun e o => (bcell e.below _ o zk).trans (HS.out.box.cell o)
  cases hcv : pbV c with
  | false =>
    have HV := Lib.hid hcv
    have HF : Hid (fitsB p c = false) := Lib.hid (by rw [fits_top, hcv]; rfl)
    clear hcv
    refine wp_region_perm' (ftΦ false undef undef undef 0 0) (fun i => i == 1) (by kernel_rfl) (by kernel_rfl) (by kernel_rfl) (ftΦ_later _ _ _ _ _ _) ?_
    iterate 1 (refine walkP_calm rfl rfl rfl (fun K hK => ?_); go_big_quiet_op; refine hK _ ?_; clear hK K)
    refine walkP_mem rfl rfl (fun wa hba hFa => ?_) (fun v1 lo1 hi1 l1 g1 h1 => ?_)
    · go_simp
      refine (pbValid_any _ c wa (HP.out.below hba)).mono fun e w5 ⟨h1, h2⟩ => ?_
      rw [HV.out] at h1
      exact ⟨_, h1, h2, .inl ⟨rfl, rfl⟩⟩
    obtain rfl : v1 = .bool false := by
      obtain ⟨_, h⟩ := h1
      rcases h with ⟨-, h⟩ | ⟨h, -⟩ | ⟨h, -⟩ | ⟨h, -⟩
      · exact h
      all_goals exact absurd h (by decide)
    simp only [Act.put, List.setIfInBounds_toArray, List.set_cons_succ, List.set_cons_zero]
    iterate 1 (refine walkP_calm rfl rfl rfl (fun K hK => ?_); go_big_quiet_op; refine hK _ ?_; clear hK K)
    iterate 9 (refine walkP_skip rfl rfl ?_; simp only [Act.put, List.setIfInBounds_toArray, List.set_cons_succ, List.set_cons_zero])
    iterate 2 (refine walkP_calm rfl rfl rfl (fun K hK => ?_); go_big_quiet_op; refine hK _ ?_; clear hK K)
    intro wx hbx hF hI hP
    have HBX := Lib.hid (bon HB.out hbx)
    clear hF hI hP hbx
    go_wp2_with fail
    go_ret
    exact ⟨ret_bool HF.out.symm, HBX.out⟩
  | true =>
    have HV := Lib.hid hcv
    obtain ⟨T, hT⟩ : ∃ T, topTo [c] 1 = T := ⟨_, rfl⟩
    have HT := Lib.hid hT
    have HF : Hid (fitsB p c = decide (T ≤ p.n + p.rules.length)) := Lib.hid (by rw [fits_top, hcv, hT]; rfl)
    have hTb := topTo_bound (db := [c]) (fun d hd => by rw [List.mem_singleton.1 hd]; exact hcv) 1 (Nat.le_refl _)
    rw [hT] at hTb
    obtain ⟨hT1, hT2, -⟩ := hTb
    obtain ⟨N, hN⟩ : ∃ N : Int, p.n + (p.rules.length : Int) = N := ⟨_, rfl⟩
    have HN : Hid (varsI p = N) := Lib.hid (by unfold varsI; rw [if_pos HVE.out, hN])
    rw [hN] at HF
    clear hcv hT hN
    refine wp_region_perm' (ftΦ true (.slice a2 c.lits.length c2) (.slice a3 c.coefs.length c3) (.int .i64 c.bound) T N) (fun i => i == 1 || i == 4 || i == 5 || i == 10) (by kernel_rfl) (by kernel_rfl) (by kernel_rfl) (ftΦ_later _ _ _ _ _ _) ?_
    iterate 1 (refine walkP_calm rfl rfl rfl (fun K hK => ?_); go_big_quiet_op; refine hK _ ?_; clear hK K)
    refine walkP_mem rfl rfl (fun wa hba hFa => ?_) (fun v1 lo1 hi1 l1 g1 h1 => ?_)
    · go_simp
      refine (pbValid_any _ c wa (HP.out.below hba)).mono fun e w5 ⟨h1, h2⟩ => ?_
      rw [HV.out] at h1
      exact ⟨_, h1, h2, .inl ⟨rfl, rfl⟩⟩
    obtain rfl : v1 = .bool true := by
      obtain ⟨_, h⟩ := h1
      rcases h with ⟨-, h⟩ | ⟨h, -⟩ | ⟨h, -⟩ | ⟨h, -⟩
      · exact h
      all_goals exact absurd h (by decide)
    clear h1
    simp only [Act.put, List.setIfInBounds_toArray, List.set_cons_succ, List.set_cons_zero]
    iterate 2 (refine walkP_calm rfl rfl rfl (fun K hK => ?_); go_big_quiet_op; refine hK _ ?_; clear hK K)
    refine walkP_mem rfl rfl (fun wa hba hFa => ?_) (fun v4 lo4 hi4 l4 g4 h4 => ?_)
    · go_simp
      exact ⟨bal (Below.refl _ _) _, .inr (.inl ⟨rfl, rfl, by simp, Blk.new _ _ _⟩)⟩
    obtain rfl : v4 = .slice (some ⟨lo4, 0, none⟩) 1 1 := by
      obtain ⟨_, h⟩ := h4
      rcases h with ⟨h, -⟩ | ⟨-, h, -⟩ | ⟨h, -⟩ | ⟨h, -⟩
      · exact absurd h (by decide)
      · exact h
      all_goals exact absurd h (by decide)
    simp only [Act.put, List.setIfInBounds_toArray, List.set_cons_succ, List.set_cons_zero]
    refine walkP_mem rfl rfl (fun wa hba hFa => ?_) (fun v5 lo5 hi5 l5 g5 h5 => ?_)
    · have hf0 := hFa _ (.head _) (by kernel_rfl)
      dsimp only at hf0
      have hbk : Blk wa lo4 [.slice a2 c.lits.length c2, .slice a3 c.coefs.length c3, .int .i64 c.bound] 25 := by
        rcases hf0 with ⟨h, -⟩ | ⟨-, -, -, h⟩ | ⟨h, -⟩ | ⟨h, -⟩
        · exact absurd h (by decide)
        · exact h
        all_goals exact absurd h (by decide)
      clear hf0
      go_simp
      refine (vtop_call (db := [c]) HT.out (one_pbs hbk (HSL.out.below hba)) (fun d hd => by rw [List.mem_singleton.1 hd]; exact HV.out)).mono fun e w5 ⟨h1, h2⟩ => ?_
      exact ⟨_, h1, h2, .inr (.inr (.inl ⟨rfl, rfl⟩))⟩
    obtain rfl : v5 = .int .i64 T := by
      obtain ⟨_, h⟩ := h5
      rcases h with ⟨h, -⟩ | ⟨h, -⟩ | ⟨-, h⟩ | ⟨h, -⟩
      · exact absurd h (by decide)
      · exact absurd h (by decide)
      · exact h
      · exact absurd h (by decide)
    clear h4 h5
    simp only [Act.put, List.setIfInBounds_toArray, List.set_cons_succ, List.set_cons_zero]
    iterate 4 (refine walkP_calm rfl rfl rfl (fun K hK => ?_); go_big_quiet_op; refine hK _ ?_; clear hK K)
    refine walkP_mem rfl rfl (fun wa hba hFa => ?_) (fun v10 lo10 hi10 l10 g10 h10 => ?_)
    · go_simp
      refine (varsI_any _ p wa ((HS.out.prog.below HS.out.below).below hba)).mono fun e w5 ⟨h1, h2⟩ => ?_
      rw [HN.out] at h1
      exact ⟨_, h1, h2, .inr (.inr (.inr ⟨rfl, rfl⟩))⟩
    obtain rfl : v10 = .int .i64 N := by
      obtain ⟨_, h⟩ := h10
      rcases h with ⟨h, -⟩ | ⟨h, -⟩ | ⟨h, -⟩ | ⟨-, h⟩
      · exact absurd h (by decide)
      · exact absurd h (by decide)
      · exact absurd h (by decide)
      · exact h
    clear h10
    simp only [Act.put, List.setIfInBounds_toArray, List.set_cons_succ, List.set_cons_zero]
    iterate 3 (refine walkP_calm rfl rfl rfl (fun K hK => ?_); go_big_quiet_op; refine hK _ ?_; clear hK K)
    intro wx hbx hF hI hP
    have HBX := Lib.hid (bon HB.out hbx)
    clear hF hI hP hbx
    go_wp2_with fail
    go_ret
    exact ⟨ret_bool HF.out.symm, HBX.out⟩
end Go.Proofs.YteblddnoegbalaaGreat
namespace Go.Proofs.YteblddnoegbalaaGreat
open Go.RowKit
set_option maxHeartbeats 1000000 in
set_option maxRecDepth 100000 in
theorem grow0_36 (n : Nat) (w : World) (hn : n ≤ 200000) :
    Calls Tryz.prog 253 #[.slice none 0 0, .int .i64 n] w fun e w' => ∃ v, e = .returned v ∧ QRow w.heap.size w' v [] ∧ Below w.heap.size w w' := by
  obtain ⟨i0, hi, hz0, hz1, hz2⟩ := info_parts infoI
  by_cases h0 : n = 0
  · subst h0
    go_enter Tryz.func253, Tryz.ntmps253
    go_wp2
    go_ret
    exact ⟨_, rfl, QRow.nil _ _, Below.refl _ _⟩
  · have hr := Lib.run_append_nil_zeros (P := Tryz.prog) w 23 3 23 3 i0 _ .i64 .i64 Tryz.underlying23 Tryz.underlying3 hi hz0 n (by omega) (by rw [hz1]; decide) (by omega) (by rw [hz2]; omega)
    have hG : n ≤ grownCap w n 0 3 := grownCap_ge w _ _ _
    have hM : grownCap w n 0 3 ≤ maxLen := grownCap_le_maxLen w n 0 3 (by unfold maxLen; omega)
    generalize grownCap w n 0 3 = G at hr hG hM
    have hsz : G ≤ (Builtin.zeroCells (Value.int .i64 0).cells n ++ Builtin.zeroCells (Value.int .i64 0).cells (G - n)).size := by
      rw [Array.size_append, size_zeroCells, size_zeroCells]
      show G ≤ n * 1 + (G - n) * 1
      omega
    generalize Builtin.zeroCells (Value.int .i64 0).cells n ++ Builtin.zeroCells (Value.int .i64 0).cells (G - n) = arr at hr hsz
    have HB : Hid (Below w.heap.size w (w.drew.alloc (.cells arr 3))) := Lib.hid (bal (Below.refl w.heap.size w).drew _)
    have HQ : Hid (QRow w.heap.size (w.drew.alloc (.cells arr 3)) (.slice (some ⟨w.heap.size, 0, none⟩) 0 G) []) :=
      Lib.hid ⟨fun i => by simp [ix], .inr ⟨w.heap.size, 0, G, arr, rfl, Nat.le_refl _, by show (w.heap.push _)[w.heap.size]? = _; simp, by simp, hM, by omega, fun i hi => absurd hi (by simp)⟩⟩
    have HR := Lib.hid hr
    clear hr hsz hi
    go_enter Tryz.func253, Tryz.ntmps253
    go_wp2_with (at_builtin; refine Lib.wpList_append_run _ rfl _ _ _ _ rfl _ _ rfl rfl _ _ HR.out ?_)
    go_ret
    exact ⟨_, rfl, HQ.out, HB.out⟩
def CcA (l1 l2 : List Int) (w : World) (s i : Value) (wx : World) : Prop :=
  w = wx ∧ ((i = .int .i64 0 ∧ s = .int .i64 0) ∨ (i = .int .i64 1 ∧ s = .int .i64 (l1.length : Nat)) ∨ (i = .int .i64 2 ∧ ∃ N : Nat, N = l1.length + l2.length ∧ s = .int .i64 (N : Int)))
def CcB (l1 l2 : List Int) (w _ : World) (u i : Value) (wx : World) : Prop :=
  Below w.heap.size w wx ∧ ((i = .int .i64 0 ∧ QRow w.heap.size wx u []) ∨ (i = .int .i64 1 ∧ QRow w.heap.size wx u l1) ∨ (i = .int .i64 2 ∧ QRow w.heap.size wx u (l1 ++ l2)))
set_option maxHeartbeats 4000000 in
set_option maxRecDepth 100000 in
theorem concat2 (b : Nat) (v1 v2 : Value) (l1 l2 : List Int) (w : World) (hb : Blk w b [v1, v2] 23) (h1 : Ints w v1 l1) (h2 : Ints w v2 l2) (hl : l1.length + l2.length ≤ 200000) :
    Calls Tryz.prog 230 #[.slice (some ⟨b, 0, none⟩) 2 2] w fun e w' => ∃ v, e = .returned v ∧ QRow w.heap.size w' v (l1 ++ l2) ∧ Below w.heap.size w w' := by
  obtain ⟨a1, c1, rfl, -⟩ := id h1.form
  obtain ⟨a2, c2, rfl, -⟩ := id h2.form
  have HB := Lib.hid hb
  have H1 := Lib.hid h1
  have H2 := Lib.hid h2
  have kz := hb.lt
  have hk0 := hb.cell 0
  have hk1 := hb.cell 1
  simp only [List.getElem?_cons_zero, List.getElem?_cons_succ] at hk0 hk1
  clear hb h1 h2
  go_enter Tryz.func230, Tryz.ntmps230
  go_wp2
  go_loopw [3, 11] (fun s i wx => CcA l1 l2 w s i wx) (fun _ i _ => 2 - (intOf i).toNat)
  case atStart => exact ⟨rfl, .inl ⟨rfl, rfl⟩⟩
  case round =>
    obtain ⟨rfl, h⟩ := hrel
    rcases h with ⟨rfl, rfl⟩ | ⟨rfl, rfl⟩ | ⟨rfl, N, hN, rfl⟩
    · go_wp2_with fail
      first
        | (go_roundw
           case rel => (exact ⟨rfl, .inr (.inl ⟨rfl, rfl⟩)⟩)
           case measure => (simp [intOf]))
        | (refine ⟨?_, ?_⟩
           · (exact ⟨rfl, .inr (.inl ⟨rfl, rfl⟩)⟩)
           · (simp [intOf]))
    · go_wp2_with fail
      first
        | (go_roundw
           case rel => (exact ⟨rfl, .inr (.inr ⟨rfl, _, rfl, by rw [Int.natCast_add]⟩)⟩)
           case measure => (simp [intOf]))
        | (refine ⟨?_, ?_⟩
           · (exact ⟨rfl, .inr (.inr ⟨rfl, _, rfl, by rw [Int.natCast_add]⟩)⟩)
           · (simp [intOf]))
    · have HGN := Lib.hid (grow0_36 N w (by omega))
      have HNN := Lib.hid hN
      clear hN
      go_wp2_with (go_at_call 253; (with_reducible refine (HGN.out).mono ?_); rintro e w1 ⟨v, rfl, hq, hb1⟩; have HQ := Lib.hid hq; have HB1 := Lib.hid hb1; clear hq hb1)
      go_loopw [6, 27] (fun u i wx => CcB l1 l2 w w1 u i wx) (fun _ i _ => 2 - (intOf i).toNat)
      case atStart => exact ⟨HB1.out, .inl ⟨rfl, HQ.out⟩⟩
      case round =>
        obtain ⟨hbx, h⟩ := hrel
        have HBX := Lib.hid hbx
        have kx0 := (bcell hbx _ _ kz).trans hk0
        have kx1 := (bcell hbx _ _ kz).trans hk1
        have HI1 := Lib.hid (H1.out.below hbx)
        have HI2 := Lib.hid (H2.out.below hbx)
        clear hbx
        rcases h with ⟨rfl, hq⟩ | ⟨rfl, hq⟩ | ⟨rfl, hq⟩
        · have HQ1 := Lib.hid hq
          clear hq
          go_wp2_with (at_builtin; refine wpList_appendQs rfl _ _ rfl w.heap.size _ _ [] l1 rfl rfl HQ1.out HI1.out (by simp; omega) HBX.out.size ?_; intro v7 w7 hq7 hg7 ho7; have HB7 := Lib.hid (HBX.out.trans (below_row hg7 HBX.out.size fun g e => (HQ1.out.base e).1)); have HQ7 := Lib.hid hq7; clear hq7 hg7 ho7)
          first
            | (go_roundw
               case rel => (exact ⟨HB7.out, .inr (.inl ⟨rfl, HQ7.out⟩)⟩)
               case measure => (simp [intOf]))
            | (refine ⟨?_, ?_⟩
               · (exact ⟨HB7.out, .inr (.inl ⟨rfl, HQ7.out⟩)⟩)
               · (simp [intOf]))
        · have HQ1 := Lib.hid hq
          clear hq
          go_wp2_with (at_builtin; refine wpList_appendQs rfl _ _ rfl w.heap.size _ _ l1 l2 rfl rfl HQ1.out HI2.out (by omega) HBX.out.size ?_; intro v7 w7 hq7 hg7 ho7; have HB7 := Lib.hid (HBX.out.trans (below_row hg7 HBX.out.size fun g e => (HQ1.out.base e).1)); have HQ7 := Lib.hid hq7; clear hq7 hg7 ho7)
          first
            | (go_roundw
               case rel => (exact ⟨HB7.out, .inr (.inr ⟨rfl, HQ7.out⟩)⟩)
               case measure => (simp [intOf]))
            | (refine ⟨?_, ?_⟩
               · (exact ⟨HB7.out, .inr (.inr ⟨rfl, HQ7.out⟩)⟩)
               · (simp [intOf]))
        · have HQ1 := Lib.hid hq
          clear hq
          go_wp2
          go_ret
          exact ⟨_, rfl, HQ1.out, HBX.out⟩
set_option maxHeartbeats 1000000 in
theorem cmul1_any (n k : Int) (kb : Nat) (w : World) (h : Blk w kb [.int .i64 k] 3) (hn : 0 ≤ n * k ∧ n * k ≤ 1152921504606846976) :
    Calls Tryz.prog 232 #[.int .i64 n, .pointer (some ⟨kb, 0, none⟩)] w fun e w' => e = .returned (.int .i64 (n * k)) ∧ Below w.heap.size w w' := by
  have kx := h.cell 0
  clear h
  go_enter Tryz.func232, Tryz.ntmps232
  go_wp2
  go_ret
  exact ⟨rfl, Below.refl _ _⟩
set_option maxHeartbeats 1000000 in
theorem cup_any (n k : Int) (w : World) (hn : 0 ≤ n ∧ n ≤ 1099511627776) (hk : 1 ≤ k ∧ k ≤ 1099511627776) :
    Calls Tryz.prog 234 #[.int .i64 n, .int .i64 k] w fun e w' => e = .returned (.int .i64 (upI n k)) ∧ Below w.heap.size w w' := by
  have h1 : 0 ≤ (n + k - 1).tdiv k := by rw [Int.tdiv_eq_ediv_of_nonneg (by omega)]; exact Int.ediv_nonneg (by omega) (by omega)
  have h2 : (n + k - 1).tdiv k ≤ n + k - 1 := by rw [Int.tdiv_eq_ediv_of_nonneg (by omega)]; exact Int.ediv_le_self _ (by omega)
  have h3 : k ≠ 0 := by omega
  go_enter Tryz.func234, Tryz.ntmps234
  go_wp2
  go_ret
  exact ⟨rfl, Below.refl _ _⟩
set_option maxHeartbeats 1000000 in
theorem cdiv1_any (n k : Int) (kb : Nat) (w : World) (h : Blk w kb [.int .i64 k] 3) (hn : 0 ≤ n ∧ n ≤ 1099511627776) (hk : 1 ≤ k ∧ k ≤ 1099511627776) :
    Calls Tryz.prog 233 #[.int .i64 n, .pointer (some ⟨kb, 0, none⟩)] w fun e w' => e = .returned (.int .i64 (upI n k)) ∧ Below w.heap.size w w' := by
  have kx := h.cell 0
  clear h
  go_enter Tryz.func233, Tryz.ntmps233
  go_wp2_with (go_at_call 234; (with_reducible refine (cup_any n k _ hn hk).mono ?_); rintro e w1 ⟨rfl, hb1⟩)
  go_ret
  exact ⟨rfl, hb1⟩
set_option maxHeartbeats 1000000 in
theorem cwk1_any (l v : Int) (vb : Nat) (w : World) (h : Blk w vb [.int .i64 v] 3) (hv : 1 ≤ v ∧ v ≤ 65536) :
    Calls Tryz.prog 235 #[.int .i64 l, .pointer (some ⟨vb, 0, none⟩)] w fun e w' => e = .returned (.bool (decide ((l.natAbs : Int) = v))) ∧ Below w.heap.size w w' := by
  have kx := h.cell 0
  clear h
  by_cases h1 : l = v
  · have HF : Hid ((l.natAbs : Int) = v) := Lib.hid (by omega)
    go_enter Tryz.func235, Tryz.ntmps235
    go_wp2
    go_ret
    exact ⟨ret_bool (decide_eq_true HF.out).symm, Below.refl _ _⟩
  · by_cases h2 : l = -v
    · have HF : Hid ((l.natAbs : Int) = v) := Lib.hid (by omega)
      go_enter Tryz.func235, Tryz.ntmps235
      go_wp2
      go_ret
      exact ⟨ret_bool (decide_eq_true HF.out).symm, Below.refl _ _⟩
    · have HF : Hid (¬ (l.natAbs : Int) = v) := Lib.hid (by omega)
      go_enter Tryz.func235, Tryz.ntmps235
      go_wp2
      go_ret
      exact ⟨ret_bool (by rw [decide_eq_false HF.out]; simp [h1, h2]), Below.refl _ _⟩
set_option maxHeartbeats 1000000 in
theorem idx_cwk (v : Value) (l : List Int) (w : World) (h : Ints w v l) (g : Nat → Bool) (cap : Value)
    (hg : ∀ w', Below w.heap.size w w' → ∀ j, j < l.length → Calls Tryz.prog 235 #[.int .i64 (ix l j), cap] w' fun e w'' => e = .returned (.bool (g j)) ∧ Below w'.heap.size w' w'') :
    Calls Tryz.prog 150 #[v, .func (.func 235) #[] #[cap]] w fun e w' => ∃ r, e = .returned (.int .i64 r) ∧ IxP l.length g r ∧ Below w.heap.size w w' := by
  obtain ⟨a1, c1, rfl, -, hl1, -, hcell⟩ := h.form
  have HG := Lib.hid hg
  clear h hg
  go_enter Tryz.func150, Tryz.ntmps150
  go_wp2
  go_loopw [8] (fun i wx => IxR l.length g w i wx) (fun i _ => l.length - (intOf i).toNat)
  case atStart => exact ⟨0, by omega, rfl, fun j hj => absurd hj (Nat.not_lt_zero _), Below.refl _ _⟩
  case round =>
    obtain ⟨k, hk, rfl, hall, hb⟩ := hrel
    have HA := Lib.hid hall
    clear hall
    by_cases hlt : k < l.length
    · obtain ⟨b, off, rfl, hbl, hc⟩ := hcell (by omega)
      have hk1 := (bcell hb _ _ hbl).trans (hc k hlt)
      clear hc hcell
      cases g1 : g k with
      | true =>
        have HK : Hid (_ = true) := Lib.hid g1
        have HC := Lib.hid (HG.out _ hb k hlt)
        rw [g1] at HC
        clear g1
        go_wp2_with (go_at_call 235; refine (HC.out).mono ?_; rintro e w1 ⟨rfl, hb1⟩)
        go_ret
        exact ⟨_, rfl, .inr ⟨k, hlt, rfl, HK.out, HA.out⟩, bon hb hb1⟩
      | false =>
        have HN := Lib.hid (lt_succ_all HA.out g1)
        have HC := Lib.hid (HG.out _ hb k hlt)
        rw [g1] at HC
        clear g1
        go_wp2_with (go_at_call 235; refine (HC.out).mono ?_; rintro e w1 ⟨rfl, hb1⟩)
        first
          | (go_roundw
             case rel => (exact ⟨k + 1, by omega, by go_num, HN.out, bon hb hb1⟩)
             case measure => (simp [intOf]; omega))
          | (refine ⟨?_, ?_⟩
             · (exact ⟨k + 1, by omega, by go_num, HN.out, bon hb hb1⟩)
             · (simp [intOf]; omega))
    · have HN : Hid (∀ j, j < l.length → g j = false) := Lib.hid (fun j hj => HA.out j (by omega))
      go_wp2
      go_ret
      exact ⟨_, rfl, .inl ⟨rfl, HN.out⟩, hb⟩
attribute [local go_sem] memUpon
def scL (F : Int → Int) (l : List Int) (k : Nat) : List Int := (List.range l.length).map fun j => if j < k then F (ix l j) else 0
theorem scL_len (F : Int → Int) (l : List Int) (k : Nat) : (scL F l k).length = l.length := by simp [scL]
theorem scL_set (F : Int → Int) (l : List Int) (k : Nat) : ((scL F l k).map (Value.int .i64)).set k (.int .i64 (F (ix l k))) = (scL F l (k + 1)).map (Value.int .i64) := by
  unfold scL
  apply List.ext_getElem (by simp)
  intro i h1 h2
  simp only [List.length_set, List.length_map, List.length_range] at h1
  simp only [List.getElem_set, List.getElem_map, List.getElem_range]
  by_cases h : k = i
  · subst h; rw [if_pos rfl, if_pos (by omega)]
  · rw [if_neg h]
    by_cases h3 : i < k
    · rw [if_pos h3, if_pos (by omega)]
    · rw [if_neg h3, if_neg (by omega)]
theorem scL_zero (F : Int → Int) (l : List Int) : (scL F l 0).map (Value.int .i64) = List.replicate l.length (Value.int .i64 0) := by
  unfold scL
  apply List.ext_getElem (by simp)
  intro i h1 h2
  simp
theorem scL_all (F : Int → Int) (l : List Int) : scL F l l.length = l.map F := by
  unfold scL
  apply List.ext_getElem (by simp)
  intro i h1 h2
  simp only [List.length_map, List.length_range] at h1
  simp [h1, ix, List.getD_eq_getElem?_getD]
structure ScSt (w0 : World) (c : PBC) (vl vk : Value) (F : Int → Int) (H k : Nat) (W : World) : Prop where
  below : Below w0.heap.size w0 W
  box : Blk W w0.heap.size [vl, vk, .int .i64 c.bound] 25
  res : Blk W (w0.heap.size + 1) [.slice none 0 0, .slice none 0 0, .int .i64 0] 25
  row : Blk W H ((scL F c.coefs k).map (Value.int .i64)) 3
theorem ScSt.put {w0 W W' : World} {c : PBC} {vl vk : Value} {F : Int → Int} {H k : Nat} (h : ScSt w0 c vl vk F H k W) (hb : Below W.heap.size W W') (hH : w0.heap.size + 1 < H) : ScSt w0 c vl vk F H (k + 1) (W'.setCell ⟨H, k, none⟩ (.int .i64 (F (ix c.coefs k)))) := by
  have h4 := (h.row.below hb).set k (.int .i64 (F (ix c.coefs k)))
  rw [scL_set] at h4
  exact ⟨Below.setCell (bon h.below hb) (by show w0.heap.size ≤ H; omega) _, (h.box.below hb).setOther _ _ (by omega), (h.res.below hb).setOther _ _ (by omega), h4⟩
def ScRel (w0 : World) (c : PBC) (vl vk : Value) (F : Int → Int) (H : Nat) (i : Value) (wx : World) : Prop := ∃ k : Nat, k ≤ c.coefs.length ∧ i = .int .i64 k ∧ ScSt w0 c vl vk F H k wx
def scΦ (B i0 i1 : Nat) (fb : Int) (N : PBC) (E : Int) (i : Nat) (_ : List Value) (v : Value) (_ _ : Nat) (w : World) : Prop :=
  (i = i0 ∧ v = .int .i64 fb) ∨ (i = i1 ∧ ∃ al cl ak ck, v = .tuple #[.agg #[.slice al N.lits.length cl, .slice ak N.coefs.length ck, .int .i64 N.bound], .int .i64 E] ∧ QRow B w (.slice al N.lits.length cl) N.lits ∧ QRow B w (.slice ak N.coefs.length ck) N.coefs ∧ InI N.bound ∧ N.lits.length ≤ 65536 ∧ N.coefs.length ≤ 65536)
theorem scΦ_later (B i0 i1 : Nat) (fb : Int) (N : PBC) (E : Int) : ∀ i args v lo hi w w', scΦ B i0 i1 fb N E i args v lo hi w → Below w.heap.size w w' → scΦ B i0 i1 fb N E i args v lo hi w' := fun _ _ _ _ _ _ _ h hb => by
  rcases h with h | ⟨e, al, cl, ak, ck, h1, h2, h3, h4⟩
  · exact .inl h
  · exact .inr ⟨e, al, cl, ak, ck, h1, h2.below hb, h3.below hb, h4⟩
theorem norm_sc {B i0 i1 : Nat} {fb : Int} {v1 v2 : Value} {L K : List Int} {b : Int} {w : World} {N : PBC} {E : Int} (hN : normP L K b = (N, E)) (h1 : Ints w v1 L) (h2 : Ints w v2 K) (hB : InI b) (hb : B ≤ w.heap.size) :
    Calls Tryz.prog 44 #[v1, v2, .int .i64 b] w fun e w' => ∃ v, e = .returned v ∧ Below w.heap.size w w' ∧ scΦ B i0 i1 fb N E i1 [] v 0 0 w' := by
  refine (norm_any v1 v2 L K b w h1 h2 hB).mono ?_
  rintro e w' ⟨vp, rfl, hq, hb1⟩
  rw [hN] at hq ⊢
  obtain ⟨vl, vk, rfl, h3, h4, h5, h6, h7⟩ := hq
  obtain ⟨al, cl, rfl⟩ := h3.slen
  obtain ⟨ak, ck, rfl⟩ := h4.slen
  exact ⟨_, rfl, hb1, .inr ⟨rfl, al, cl, ak, ck, rfl, h3.mono hb, h4.mono hb, h5, h6, h7⟩⟩
set_option maxHeartbeats 4000000 in
set_option maxRecDepth 100000 in
theorem scaled_mul (v : Value) (c : PBC) (k : Int) (kb : Nat) (F : Int → Int) (w : World) (h : PBIs w v c) (hk : Blk w kb [.int .i64 k] 3) (hl : c.coefs.length ≤ 65536) (hF : ∀ n, n ∈ c.coefs ∨ n = c.bound → InI (F n) ∧ ∀ w', Blk w' kb [.int .i64 k] 3 → Calls Tryz.prog 232 #[.int .i64 n, .pointer (some ⟨kb, 0, none⟩)] w' fun e w'' => e = .returned (.int .i64 (F n)) ∧ Below w'.heap.size w' w'') :
    Calls Tryz.prog 231 #[v, .func (.func 232) #[] #[.pointer (some ⟨kb, 0, none⟩)]] w fun e w' => ∃ vp, e = .returned (.tuple #[vp, .int .i64 (normP c.lits (c.coefs.map F) (F c.bound)).2]) ∧ PBQ w.heap.size w' vp (normP c.lits (c.coefs.map F) (F c.bound)).1 ∧ Below w.heap.size w w' := by
  obtain ⟨vl, vk, rfl, hL, hK, hbd⟩ := h
  obtain ⟨a1, c1, rfl, -⟩ := id hL.form
  obtain ⟨a2, c2, rfl, -, hl2, -, hcell⟩ := id hK.form
  have hmk : ∀ w : World, (Instr.makeSlice 23 (.int .i64 (c.coefs.length : Int)) (.int .i64 (c.coefs.length : Int))).run Tryz.prog w = .ok (.slice (some ⟨w.heap.size, 0, none⟩) c.coefs.length c.coefs.length) (w.alloc (.cells (madeCells #[.int .i64 0] c.coefs.length) 3)) := fun w => run_make_row' _ _ _ _ Tryz.underlying23 infoI rfl .i64 .i64 c.coefs.length (by omega) (by omega) w
  have HFF := Lib.hid hF
  have HK0 := Lib.hid hk
  have HL := Lib.hid hL
  have HCE := Lib.hid hcell
  have HBB := Lib.hid hbd
  have hzk := hk.lt
  have hr0 := Blk.new ((w.alloc (.cells #[.slice a1 c.lits.length c1, .slice a2 c.coefs.length c2, .int .i64 c.bound] 25)).alloc (.cells #[.slice none 0 0, .slice none 0 0, .int .i64 0] 25)) (List.replicate c.coefs.length (Value.int .i64 0)) 3
  rw [← made_list, ← scL_zero F c.coefs] at hr0
  simp only [World.size_alloc] at hr0
  have HS : Hid (ScSt w c (.slice a1 c.lits.length c1) (.slice a2 c.coefs.length c2) F (w.heap.size + 2) 0 (((w.alloc (.cells #[.slice a1 c.lits.length c1, .slice a2 c.coefs.length c2, .int .i64 c.bound] 25)).alloc (.cells #[.slice none 0 0, .slice none 0 0, .int .i64 0] 25)).alloc (.cells (madeCells #[.int .i64 0] c.coefs.length) 3))) := Lib.hid ⟨bal (bal (bal (Below.refl _ _) _) _) _, (by repeat first | (refine Blk.newAt _ _ _ ?_; first | rfl | (simp only [World.size_alloc]; done) | (simp only [World.size_alloc]; omega)) | refine Blk.alloc ?_ _), (by repeat first | (refine Blk.newAt _ _ _ ?_; first | rfl | (simp only [World.size_alloc]; done) | (simp only [World.size_alloc]; omega)) | refine Blk.alloc ?_ _), hr0⟩
  have hbx1 := (Blk.new w [.slice a1 c.lits.length c1, .slice a2 c.coefs.length c2, .int .i64 c.bound] 25).cell
  clear hF hk hL hcell hbd hK hr0
  obtain ⟨⟨N, E⟩, hN⟩ : ∃ N, normP c.lits (c.coefs.map F) (F c.bound) = N := ⟨_, rfl⟩
  have HN := Lib.hid hN
  rw [hN]
  clear hN
  go_enter Tryz.func231, Tryz.ntmps231
  go_upto_region 2 with fail
  generalize ((w.alloc (.cells #[.slice a1 c.lits.length c1, .slice a2 c.coefs.length c2, .int .i64 c.bound] 25)).alloc (.cells #[.slice none 0 0, .slice none 0 0, .int .i64 0] 25)).alloc (.cells (madeCells #[.int .i64 0] c.coefs.length) 3) = W0 at *
  have kx0 := HS.out.box.cell
  clear hbx1 hmk
  go_wp2
  clear kx0
  go_loopw [16] (fun i wx => ScRel w c (.slice a1 c.lits.length c1) (.slice a2 c.coefs.length c2) F (w.heap.size + 2) i wx) (fun i _ => c.coefs.length - (intOf i).toNat)
  case atStart => exact ⟨0, Nat.zero_le _, rfl, HS.out⟩
  case round =>
    obtain ⟨j, hj, rfl, hs⟩ := hrel
    have HSR := Lib.hid hs
    clear HS hs
    have kx := HSR.out.box.cell
    by_cases hlt : j < c.coefs.length
    · obtain ⟨b, off, rfl, hbl, hc⟩ := HCE.out (by omega)
      have kj := (bcell HSR.out.below _ _ hbl).trans (hc j hlt)
      have HFJ := Lib.hid (HFF.out (ix c.coefs j) (.inl (ix_mem hlt)))
      have HKR := Lib.hid (HK0.out.below HSR.out.below)
      clear hc
      go_wp2_with (go_at_call 232; (with_reducible refine (HFJ.out.2 _ HKR.out).mono ?_); rintro e w1 ⟨rfl, hb1⟩; have HSP := Lib.hid (HSR.out.put hb1 (by omega)); have hr1 := HSR.out.row.below hb1; have kf := hr1.free j; have kc := hr1.cell j; rw [List.getElem?_eq_getElem (by rw [List.length_map, scL_len]; exact hlt)] at kc; clear hr1 hb1)
      first
        | (go_roundw
           case rel => (exact ⟨j + 1, by omega, by go_num, HSP.out⟩)
           case measure => (simp [intOf]; omega))
        | (refine ⟨?_, ?_⟩
           · (exact ⟨j + 1, by omega, by go_num, HSP.out⟩)
           · (simp [intOf]; omega))
    · obtain rfl : j = c.coefs.length := by omega
      have HX := Lib.hid (HSR.out.box)
      have zx := HSR.out.box.lt
      have HFB := Lib.hid (HFF.out c.bound (.inr rfl))
      have ex : ∀ e : Ext wr, ∀ o, e.world.cell? ⟨w.heap.size, o, none⟩ = _ := fun e o => (bcell e.below _ o zx).trans (HSR.out.box.cell o)
      have HKR := Lib.hid (HK0.out.below HSR.out.below)
      have HLR := Lib.hid (HL.out.below HSR.out.below)
      have HRW : Hid (Ints wr (.slice (some ⟨w.heap.size + 2, 0, none⟩) c.coefs.length c.coefs.length) (c.coefs.map F)) := Lib.hid (by
        have h4 := HSR.out.row
        rw [scL_all] at h4
        have := Blk.ints h4 (fitI fun x hx => by obtain ⟨y, hy, rfl⟩ := List.mem_map.1 hx; exact (HFF.out y (.inl hy)).1) (by rw [List.length_map]; omega)
        rwa [List.length_map] at this)
      have HRS := Lib.hid HSR.out.res
      have zr := HSR.out.res.lt
      clear kx
      go_upto_region 7 with fail
      refine wp_region_tail' 10 (fun _ => True) (scΦ wr.heap.size 6 7 (F c.bound) N E) (fun i => i == 6 || i == 7) (by kernel_rfl) (by kernel_rfl) (by kernel_rfl) (fun _ _ => trivial) (scΦ_later _ _ _ _ _ _) ?_
      simp only [List.take_succ_cons, List.take_zero, List.drop_succ_cons, List.drop_zero]
      iterate 6 (refine walkP_head (by kernel_rfl) rfl rfl rfl (fun K hK => ?_); go_big_quiet_op; refine hK _ ?_; clear hK K)
      refine walkP_mem rfl rfl (fun wa hba hFa => ?_) (fun v6 lo6 hi6 l6 g6 h6 => ?_)
      · go_simp
        exact (HFB.out.2 wa (HKR.out.below hba)).mono fun e w2 ⟨h1, h2⟩ => ⟨_, h1, h2, .inl ⟨rfl, rfl⟩⟩
      obtain rfl : v6 = .int .i64 (F c.bound) := by
        obtain ⟨_, h⟩ := h6
        rcases h with ⟨-, h⟩ | ⟨h, -⟩
        · exact h
        · exact absurd h (by decide)
      simp only [Act.put, List.setIfInBounds_toArray, List.set_cons_succ, List.set_cons_zero]
      refine walkP_mem rfl rfl (fun wa hba hFa => ?_) (fun v7 lo7 hi7 l7 g7 h7 => ?_)
      · go_simp
        exact norm_sc HN.out (HLR.out.below hba) (HRW.out.below hba) HFB.out.1 hba.size
      obtain ⟨al, cl, ak, ck, rfl⟩ : ∃ al cl ak ck, v7 = .tuple #[.agg #[.slice al N.lits.length cl, .slice ak N.coefs.length ck, .int .i64 N.bound], .int .i64 E] := by
        obtain ⟨_, h⟩ := h7
        rcases h with ⟨h, -⟩ | ⟨-, al, cl, ak, ck, h, -⟩
        · exact absurd h (by decide)
        · exact ⟨al, cl, ak, ck, h⟩
      simp only [Act.put, List.setIfInBounds_toArray, List.set_cons_succ, List.set_cons_zero]
      iterate 2 (refine walkP_head (by kernel_rfl) rfl rfl rfl (fun K hK => ?_); go_big_quiet_op; refine hK _ ?_; clear hK K)
      intro wx hbx hF hI hP
      obtain ⟨f1, f2, f3, f4, f5⟩ : QRow wr.heap.size wx (.slice al N.lits.length cl) N.lits ∧ QRow wr.heap.size wx (.slice ak N.coefs.length ck) N.coefs ∧ InI N.bound ∧ N.lits.length ≤ 65536 ∧ N.coefs.length ≤ 65536 := by
        rcases hF _ (.head _) with ⟨h, -⟩ | ⟨-, _, _, _, _, e, h⟩
        · exact absurd h (by decide)
        · simp only [Value.tuple.injEq, Array.mk.injEq, List.cons.injEq, Value.agg.injEq, Value.slice.injEq, and_true, true_and] at e
          obtain ⟨⟨rfl, rfl⟩, rfl, rfl⟩ := e
          exact h
      have HRX := Lib.hid (HRS.out.below hbx)
      have kf := HRX.out.free
      have kc := HRX.out.cell
      have HBX := Lib.hid (bon HSR.out.below hbx)
      have H1 := Lib.hid (row3 f1 (w.heap.size + 1) zr (.slice al N.lits.length cl) (.slice ak N.coefs.length ck) (.int .i64 N.bound))
      have H2 := Lib.hid (row3 f2 (w.heap.size + 1) zr (.slice al N.lits.length cl) (.slice ak N.coefs.length ck) (.int .i64 N.bound))
      have H3 := Lib.hid (And.intro f3 (And.intro f4 f5))
      have H4 := Lib.hid (below3 HBX.out (w.heap.size + 1) (by omega) (.slice al N.lits.length cl) (.slice ak N.coefs.length ck) (.int .i64 N.bound))
      have H5 := Lib.hid (((HRX.out.set 0 (.slice al N.lits.length cl)).set 1 (.slice ak N.coefs.length ck)).set 2 (.int .i64 N.bound))
      clear hF hI hP hbx f1 f2 f3 f4 f5 ex h6 h7
      iterate 2 (refine ⟨rfl, rfl, ?_⟩; go_simp)
      simp only [tailW]
      generalize ((wx.setCell ⟨w.heap.size + 1, 0, none⟩ (.slice al N.lits.length cl)).setCell ⟨w.heap.size + 1, 1, none⟩ (.slice ak N.coefs.length ck)).setCell ⟨w.heap.size + 1, 2, none⟩ (.int .i64 N.bound) = w8 at *
      have kc8 := H5.out.cell
      simp only [List.set_cons_zero, List.set_cons_succ] at kc8
      clear kc kf
      go_wp2_with fail
      refine bodyPost_ret (v := .tuple #[.agg #[.slice al N.lits.length cl, .slice ak N.coefs.length ck, .int .i64 N.bound], .int .i64 E]) (by simp [results, Tryz.f231, go_sem, kc8]) rfl ?_
      exact ⟨_, rfl, ⟨_, _, rfl, H1.out.mono (by have := HSR.out.below.size; omega), H2.out.mono (by have := HSR.out.below.size; omega), H3.out.1, H3.out.2.1, H3.out.2.2⟩, H4.out⟩
set_option maxHeartbeats 4000000 in
set_option maxRecDepth 100000 in
theorem scaled_div (v : Value) (c : PBC) (k : Int) (kb : Nat) (F : Int → Int) (w : World) (h : PBIs w v c) (hk : Blk w kb [.int .i64 k] 3) (hl : c.coefs.length ≤ 65536) (hF : ∀ n, n ∈ c.coefs ∨ n = c.bound → InI (F n) ∧ ∀ w', Blk w' kb [.int .i64 k] 3 → Calls Tryz.prog 233 #[.int .i64 n, .pointer (some ⟨kb, 0, none⟩)] w' fun e w'' => e = .returned (.int .i64 (F n)) ∧ Below w'.heap.size w' w'') :
    Calls Tryz.prog 231 #[v, .func (.func 233) #[] #[.pointer (some ⟨kb, 0, none⟩)]] w fun e w' => ∃ vp, e = .returned (.tuple #[vp, .int .i64 (normP c.lits (c.coefs.map F) (F c.bound)).2]) ∧ PBQ w.heap.size w' vp (normP c.lits (c.coefs.map F) (F c.bound)).1 ∧ Below w.heap.size w w' := by
  obtain ⟨vl, vk, rfl, hL, hK, hbd⟩ := h
  obtain ⟨a1, c1, rfl, -⟩ := id hL.form
  obtain ⟨a2, c2, rfl, -, hl2, -, hcell⟩ := id hK.form
  have hmk : ∀ w : World, (Instr.makeSlice 23 (.int .i64 (c.coefs.length : Int)) (.int .i64 (c.coefs.length : Int))).run Tryz.prog w = .ok (.slice (some ⟨w.heap.size, 0, none⟩) c.coefs.length c.coefs.length) (w.alloc (.cells (madeCells #[.int .i64 0] c.coefs.length) 3)) := fun w => run_make_row' _ _ _ _ Tryz.underlying23 infoI rfl .i64 .i64 c.coefs.length (by omega) (by omega) w
  have HFF := Lib.hid hF
  have HK0 := Lib.hid hk
  have HL := Lib.hid hL
  have HCE := Lib.hid hcell
  have HBB := Lib.hid hbd
  have hzk := hk.lt
  have hr0 := Blk.new ((w.alloc (.cells #[.slice a1 c.lits.length c1, .slice a2 c.coefs.length c2, .int .i64 c.bound] 25)).alloc (.cells #[.slice none 0 0, .slice none 0 0, .int .i64 0] 25)) (List.replicate c.coefs.length (Value.int .i64 0)) 3
  rw [← made_list, ← scL_zero F c.coefs] at hr0
  simp only [World.size_alloc] at hr0
  have HS : Hid (ScSt w c (.slice a1 c.lits.length c1) (.slice a2 c.coefs.length c2) F (w.heap.size + 2) 0 (((w.alloc (.cells #[.slice a1 c.lits.length c1, .slice a2 c.coefs.length c2, .int .i64 c.bound] 25)).alloc (.cells #[.slice none 0 0, .slice none 0 0, .int .i64 0] 25)).alloc (.cells (madeCells #[.int .i64 0] c.coefs.length) 3))) := Lib.hid ⟨bal (bal (bal (Below.refl _ _) _) _) _, (by repeat first | (refine Blk.newAt _ _ _ ?_; first | rfl | (simp only [World.size_alloc]; done) | (simp only [World.size_alloc]; omega)) | refine Blk.alloc ?_ _), (by repeat first | (refine Blk.newAt _ _ _ ?_; first | rfl | (simp only [World.size_alloc]; done) | (simp only [World.size_alloc]; omega)) | refine Blk.alloc ?_ _), hr0⟩
  have hbx1 := (Blk.new w [.slice a1 c.lits.length c1, .slice a2 c.coefs.length c2, .int .i64 c.bound] 25).cell
  clear hF hk hL hcell hbd hK hr0
  obtain ⟨⟨N, E⟩, hN⟩ : ∃ N, normP c.lits (c.coefs.map F) (F c.bound) = N := ⟨_, rfl⟩
  have HN := Lib.hid hN
  rw [hN]
  clear hN
  go_enter Tryz.func231, Tryz.ntmps231
  go_upto_region 2 with fail
  generalize ((w.alloc (.cells #[.slice a1 c.lits.length c1, .slice a2 c.coefs.length c2, .int .i64 c.bound] 25)).alloc (.cells #[.slice none 0 0, .slice none 0 0, .int .i64 0] 25)).alloc (.cells (madeCells #[.int .i64 0] c.coefs.length) 3) = W0 at *
  have kx0 := HS.out.box.cell
  clear hbx1 hmk
  go_wp2
  clear kx0
  go_loopw [16] (fun i wx => ScRel w c (.slice a1 c.lits.length c1) (.slice a2 c.coefs.length c2) F (w.heap.size + 2) i wx) (fun i _ => c.coefs.length - (intOf i).toNat)
  case atStart => exact ⟨0, Nat.zero_le _, rfl, HS.out⟩
  case round =>
    obtain ⟨j, hj, rfl, hs⟩ := hrel
    have HSR := Lib.hid hs
    clear HS hs
    have kx := HSR.out.box.cell
    by_cases hlt : j < c.coefs.length
    · obtain ⟨b, off, rfl, hbl, hc⟩ := HCE.out (by omega)
      have kj := (bcell HSR.out.below _ _ hbl).trans (hc j hlt)
      have HFJ := Lib.hid (HFF.out (ix c.coefs j) (.inl (ix_mem hlt)))
      have HKR := Lib.hid (HK0.out.below HSR.out.below)
      clear hc
      go_wp2_with (go_at_call 233; (with_reducible refine (HFJ.out.2 _ HKR.out).mono ?_); rintro e w1 ⟨rfl, hb1⟩; have HSP := Lib.hid (HSR.out.put hb1 (by omega)); have hr1 := HSR.out.row.below hb1; have kf := hr1.free j; have kc := hr1.cell j; rw [List.getElem?_eq_getElem (by rw [List.length_map, scL_len]; exact hlt)] at kc; clear hr1 hb1)
      first
        | (go_roundw
           case rel => (exact ⟨j + 1, by omega, by go_num, HSP.out⟩)
           case measure => (simp [intOf]; omega))
        | (refine ⟨?_, ?_⟩
           · (exact ⟨j + 1, by omega, by go_num, HSP.out⟩)
           · (simp [intOf]; omega))
    · obtain rfl : j = c.coefs.length := by omega
      have HX := Lib.hid (HSR.out.box)
      have zx := HSR.out.box.lt
      have HFB := Lib.hid (HFF.out c.bound (.inr rfl))
      have ex : ∀ e : Ext wr, ∀ o, e.world.cell? ⟨w.heap.size, o, none⟩ = _ := fun e o => (bcell e.below _ o zx).trans (HSR.out.box.cell o)
      have HKR := Lib.hid (HK0.out.below HSR.out.below)
      have HLR := Lib.hid (HL.out.below HSR.out.below)
      have HRW : Hid (Ints wr (.slice (some ⟨w.heap.size + 2, 0, none⟩) c.coefs.length c.coefs.length) (c.coefs.map F)) := Lib.hid (by
        have h4 := HSR.out.row
        rw [scL_all] at h4
        have := Blk.ints h4 (fitI fun x hx => by obtain ⟨y, hy, rfl⟩ := List.mem_map.1 hx; exact (HFF.out y (.inl hy)).1) (by rw [List.length_map]; omega)
        rwa [List.length_map] at this)
      have HRS := Lib.hid HSR.out.res
      have zr := HSR.out.res.lt
      clear kx
      go_upto_region 7 with fail
      refine wp_region_tail' 10 (fun _ => True) (scΦ wr.heap.size 6 7 (F c.bound) N E) (fun i => i == 6 || i == 7) (by kernel_rfl) (by kernel_rfl) (by kernel_rfl) (fun _ _ => trivial) (scΦ_later _ _ _ _ _ _) ?_
      simp only [List.take_succ_cons, List.take_zero, List.drop_succ_cons, List.drop_zero]
      iterate 6 (refine walkP_head (by kernel_rfl) rfl rfl rfl (fun K hK => ?_); go_big_quiet_op; refine hK _ ?_; clear hK K)
      refine walkP_mem rfl rfl (fun wa hba hFa => ?_) (fun v6 lo6 hi6 l6 g6 h6 => ?_)
      · go_simp
        exact (HFB.out.2 wa (HKR.out.below hba)).mono fun e w2 ⟨h1, h2⟩ => ⟨_, h1, h2, .inl ⟨rfl, rfl⟩⟩
      obtain rfl : v6 = .int .i64 (F c.bound) := by
        obtain ⟨_, h⟩ := h6
        rcases h with ⟨-, h⟩ | ⟨h, -⟩
        · exact h
        · exact absurd h (by decide)
      simp only [Act.put, List.setIfInBounds_toArray, List.set_cons_succ, List.set_cons_zero]
      refine walkP_mem rfl rfl (fun wa hba hFa => ?_) (fun v7 lo7 hi7 l7 g7 h7 => ?_)
      · go_simp
        exact norm_sc HN.out (HLR.out.below hba) (HRW.out.below hba) HFB.out.1 hba.size
      obtain ⟨al, cl, ak, ck, rfl⟩ : ∃ al cl ak ck, v7 = .tuple #[.agg #[.slice al N.lits.length cl, .slice ak N.coefs.length ck, .int .i64 N.bound], .int .i64 E] := by
        obtain ⟨_, h⟩ := h7
        rcases h with ⟨h, -⟩ | ⟨-, al, cl, ak, ck, h, -⟩
        · exact absurd h (by decide)
        · exact ⟨al, cl, ak, ck, h⟩
      simp only [Act.put, List.setIfInBounds_toArray, List.set_cons_succ, List.set_cons_zero]
      iterate 2 (refine walkP_head (by kernel_rfl) rfl rfl rfl (fun K hK => ?_); go_big_quiet_op; refine hK _ ?_; clear hK K)
      intro wx hbx hF hI hP
      obtain ⟨f1, f2, f3, f4, f5⟩ : QRow wr.heap.size wx (.slice al N.lits.length cl) N.lits ∧ QRow wr.heap.size wx (.slice ak N.coefs.length ck) N.coefs ∧ InI N.bound ∧ N.lits.length ≤ 65536 ∧ N.coefs.length ≤ 65536 := by
        rcases hF _ (.head _) with ⟨h, -⟩ | ⟨-, _, _, _, _, e, h⟩
        · exact absurd h (by decide)
        · simp only [Value.tuple.injEq, Array.mk.injEq, List.cons.injEq, Value.agg.injEq, Value.slice.injEq, and_true, true_and] at e
          obtain ⟨⟨rfl, rfl⟩, rfl, rfl⟩ := e
          exact h
      have HRX := Lib.hid (HRS.out.below hbx)
      have kf := HRX.out.free
      have kc := HRX.out.cell
      have HBX := Lib.hid (bon HSR.out.below hbx)
      have H1 := Lib.hid (row3 f1 (w.heap.size + 1) zr (.slice al N.lits.length cl) (.slice ak N.coefs.length ck) (.int .i64 N.bound))
      have H2 := Lib.hid (row3 f2 (w.heap.size + 1) zr (.slice al N.lits.length cl) (.slice ak N.coefs.length ck) (.int .i64 N.bound))
      have H3 := Lib.hid (And.intro f3 (And.intro f4 f5))
      have H4 := Lib.hid (below3 HBX.out (w.heap.size + 1) (by omega) (.slice al N.lits.length cl) (.slice ak N.coefs.length ck) (.int .i64 N.bound))
      have H5 := Lib.hid (((HRX.out.set 0 (.slice al N.lits.length cl)).set 1 (.slice ak N.coefs.length ck)).set 2 (.int .i64 N.bound))
      clear hF hI hP hbx f1 f2 f3 f4 f5 ex h6 h7
      iterate 2 (refine ⟨rfl, rfl, ?_⟩; go_simp)
      simp only [tailW]
      generalize ((wx.setCell ⟨w.heap.size + 1, 0, none⟩ (.slice al N.lits.length cl)).setCell ⟨w.heap.size + 1, 1, none⟩ (.slice ak N.coefs.length ck)).setCell ⟨w.heap.size + 1, 2, none⟩ (.int .i64 N.bound) = w8 at *
      have kc8 := H5.out.cell
      simp only [List.set_cons_zero, List.set_cons_succ] at kc8
      clear kc kf
      go_wp2_with fail
      refine bodyPost_ret (v := .tuple #[.agg #[.slice al N.lits.length cl, .slice ak N.coefs.length ck, .int .i64 N.bound], .int .i64 E]) (by simp [results, Tryz.f231, go_sem, kc8]) rfl ?_
      exact ⟨_, rfl, ⟨_, _, rfl, H1.out.mono (by have := HSR.out.below.size; omega), H2.out.mono (by have := HSR.out.below.size; omega), H3.out.1, H3.out.2.1, H3.out.2.2⟩, H4.out⟩
end Go.Proofs.YteblddnoegbalaaGreat
