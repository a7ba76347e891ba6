/- My texts Ex11, BkR, merged. -/
import Derived.Test.YtfajkmmmmmfhiaaGreatDoorM08
import Derived.Test.YtfajkmmmmmfhiaaGreatDoorM07
import Derived.Test.YtfajkmmmmmfhiaaGreatDoorM06
import Derived.Test.YtfajkmmmmmfhiaaGreatDoorM05
import Derived.Test.YtfajkmmmmmfhiaaGreatDoorM04
import Derived.Test.YtfajkmmmmmfhiaaGreatDoorM03
import Derived.Test.YtfajkmmmmmfhiaaGreatDoorM00
import Derived.Test.YtfajkmmmmmfhiaaGreatDoorProg
import Derived.WalkKit
import Derived.Lib.Hide
import Derived.Deep.QuietTactic
import Derived.BigQuiet
import Derived.WalkSpells
import Derived.Lib.SliceRun
import Derived.MapKept
import Derived.Maps.OwnSet
import Derived.Maps.OwnOps
import Derived.Test.YtfajkmmmmmfhiaaGreatDoorM02
import Derived.Test.YtfajkmmmmmfhiaaGreatDoorM01
import Derived.Deep.AppendLies
import Derived.Lib.Bytealg
import Derived.Deep.DeepCutAuto
import Derived.Laws.EntriesVeiled
import Derived.Deep.RegionWith
import Derived.Deep.OwnRows
import Derived.RangeFuncNested
import Derived.RangeFuncBound
import Derived.RangeFuncCalls
import Derived.RangeFuncLeaves
import Derived.OwnWalkIn
import Derived.TacticsInMore
import Derived.LoopNIn
import Derived.LoopIn
import Derived.Stop.RegionWithIn
import Derived.Shelf.Abstract
import Derived.Deep.LoopGhost
import Derived.Deep.DrawnRows
import Derived.Shelf.Sort.Plain
import Derived.Shelf.Slices.CompactI
import Derived.Shelf.Slices.In.SortNone
import Derived.Shelf.Strconv.Itoa3
import Derived.Shelf.Strings.BuilderK
import Derived.Shelf.Slices.SearchI
import Derived.Shelf.Slices.Empties
import Derived.Test.YtfajkmmmmmfhiaaGreatDoorM09
import Derived.Deep.AppendSrc

namespace Go.Proofs.YtfajkmmmmmfhiaaGreatDoor
open Go.RowKit
def bkVal (b : BK) : Value := .agg #[.int .i64 b.rule, .int .u8 b.kind, .int .i64 b.lit]
def cellsK (b : BK) : List Value := [.int .i64 b.rule, .int .u8 b.kind, .int .i64 b.lit]
def BI (b : BK) : Prop := InI b.rule ∧ (0 ≤ b.kind ∧ b.kind ≤ 255) ∧ InI b.lit
theorem bc1_any (x : Int) (m : List Int) (mb : Nat) (w : World) (h : ∃ v, Blk w mb [v] 23 ∧ Ints w v m) (hx : -9223372036854775808 < x ∧ x ≤ 9223372036854775807) :
    Calls Tryz.prog 117 #[.int .i64 x, .pointer (some ⟨mb, 0, none⟩)] w fun e w' => e = .returned (.bool (!litT m x)) ∧ Below w.heap.size w w' := by
  obtain ⟨v, h1, h2⟩ := h
  obtain ⟨a1, c1, rfl, -⟩ := h2.form
  have kb := h1.cell 0
  have HM := Lib.hid h2
  clear h1 h2
  by_cases hp : 0 < x
  · have hmax : max x (-x) = x := by omega
    have HF : Hid ((!litT m x) = (decide (x ∈ m) != true)) := Lib.hid (by unfold litT; rw [if_pos hp]; cases decide (x ∈ m) <;> rfl)
    cases hin : decide (x ∈ m) with
    | true =>
      have HIN := Lib.hid hin
      rw [hin] at HF
      clear hin
      go_enter Tryz.func117, Tryz.ntmps117
      go_wp2_with (go_at_call 57; (with_reducible refine (contains_any _ m _ _ HM.out).mono ?_); rintro e w1 ⟨e1, rfl⟩; rw [HIN.out] at e1; subst e1)
      go_ret
      exact ⟨ret_bool HF.out.symm, Below.refl _ _⟩
    | false =>
      have HIN := Lib.hid hin
      rw [hin] at HF
      clear hin
      go_enter Tryz.func117, Tryz.ntmps117
      go_wp2_with (go_at_call 57; (with_reducible refine (contains_any _ m _ _ HM.out).mono ?_); rintro e w1 ⟨e1, rfl⟩; rw [HIN.out] at e1; subst e1)
      go_ret
      exact ⟨ret_bool HF.out.symm, Below.refl _ _⟩
  · have hmax : max x (-x) = -x := by omega
    have HF : Hid ((!litT m x) = decide (-x ∈ m)) := Lib.hid (by unfold litT; rw [if_neg hp, Bool.not_not])
    cases hin : decide (-x ∈ m) with
    | true =>
      have HIN := Lib.hid hin
      rw [hin] at HF
      clear hin
      go_enter Tryz.func117, Tryz.ntmps117
      go_wp2_with (go_at_call 57; (with_reducible refine (contains_any _ m _ _ HM.out).mono ?_); rintro e w1 ⟨e1, rfl⟩; rw [HIN.out] at e1; subst e1)
      go_ret
      exact ⟨ret_bool (by rw [HF.out]; simp [hp]), Below.refl _ _⟩
    | false =>
      have HIN := Lib.hid hin
      rw [hin] at HF
      clear hin
      go_enter Tryz.func117, Tryz.ntmps117
      go_wp2_with (go_at_call 57; (with_reducible refine (contains_any _ m _ _ HM.out).mono ?_); rintro e w1 ⟨e1, rfl⟩; rw [HIN.out] at e1; subst e1)
      go_ret
      exact ⟨ret_bool (by rw [HF.out]; simp [hp]), Below.refl _ _⟩
theorem bc2_any (x : Int) (m : List Int) (mb : Nat) (w : World) (h : ∃ v, Blk w mb [v] 23 ∧ Ints w v m) :
    Calls Tryz.prog 118 #[.int .i64 x, .pointer (some ⟨mb, 0, none⟩)] w fun e w' => e = .returned (.bool (decide (x ∈ m))) ∧ Below w.heap.size w w' := by
  obtain ⟨v, h1, h2⟩ := h
  obtain ⟨a1, c1, rfl, -⟩ := h2.form
  have kb := h1.cell 0
  have HM := Lib.hid h2
  clear h1 h2
  go_enter Tryz.func118, Tryz.ntmps118
  go_wp2_with (go_at_call 57; (with_reducible refine (contains_any _ m _ _ HM.out).mono ?_); rintro e w1 ⟨rfl, rfl⟩)
  go_ret
  exact ⟨rfl, Below.refl _ _⟩
set_option maxHeartbeats 1000000 in
theorem idx_bc1 (v : Value) (l : List Int) (w : World) (h : Ints w v l) (g : Nat → Bool) (cap : Value)
    (hg : ∀ w', Below w.heap.size w w' → ∀ j, j < l.length → Calls Tryz.prog 117 #[.int .i64 (ix l j), cap] w' fun e w'' => e = .returned (.bool (g j)) ∧ Below w'.heap.size w' w'') :
    Calls Tryz.prog 108 #[v, .func (.func 117) #[] #[cap]] w fun e w' => ∃ r, e = .returned (.int .i64 r) ∧ IxP l.length g r ∧ Below w.heap.size w w' := by
  obtain ⟨a1, c1, rfl, -, hl1, -, hcell⟩ := h.form
  have HG := Lib.hid hg
  clear h hg
  go_enter Tryz.func108, Tryz.ntmps108
  go_wp2
  go_loopw [8] (fun i wx => IxR l.length g w i wx) (fun i _ => l.length - (intOf i).toNat)
  case atStart => exact ⟨0, by omega, rfl, fun j hj => absurd hj (Nat.not_lt_zero _), Below.refl _ _⟩
  case round =>
    obtain ⟨k, hk, rfl, hall, hb⟩ := hrel
    have HA := Lib.hid hall
    clear hall
    by_cases hlt : k < l.length
    · obtain ⟨b, off, rfl, hbl, hc⟩ := hcell (by omega)
      have hk1 := (bcell hb _ _ hbl).trans (hc k hlt)
      clear hc hcell
      cases g1 : g k with
      | true =>
        have HK : Hid (_ = true) := Lib.hid g1
        have HC := Lib.hid (HG.out _ hb k hlt)
        rw [g1] at HC
        clear g1
        go_wp2_with (go_at_call 117; refine (HC.out).mono ?_; rintro e w1 ⟨rfl, hb1⟩)
        go_ret
        exact ⟨_, rfl, .inr ⟨k, hlt, rfl, HK.out, HA.out⟩, bon hb hb1⟩
      | false =>
        have HN := Lib.hid (lt_succ_all HA.out g1)
        have HC := Lib.hid (HG.out _ hb k hlt)
        rw [g1] at HC
        clear g1
        go_wp2_with (go_at_call 117; refine (HC.out).mono ?_; rintro e w1 ⟨rfl, hb1⟩)
        first
          | (go_roundw
             case rel => (exact ⟨k + 1, by omega, by go_num, HN.out, bon hb hb1⟩)
             case measure => (simp [intOf]; omega))
          | (refine ⟨?_, ?_⟩
             · (exact ⟨k + 1, by omega, by go_num, HN.out, bon hb hb1⟩)
             · (simp [intOf]; omega))
    · have HN : Hid (∀ j, j < l.length → g j = false) := Lib.hid (fun j hj => HA.out j (by omega))
      go_wp2
      go_ret
      exact ⟨_, rfl, .inl ⟨rfl, HN.out⟩, hb⟩
set_option maxHeartbeats 1000000 in
theorem idx_bc2 (v : Value) (l : List Int) (w : World) (h : Ints w v l) (g : Nat → Bool) (cap : Value)
    (hg : ∀ w', Below w.heap.size w w' → ∀ j, j < l.length → Calls Tryz.prog 118 #[.int .i64 (ix l j), cap] w' fun e w'' => e = .returned (.bool (g j)) ∧ Below w'.heap.size w' w'') :
    Calls Tryz.prog 108 #[v, .func (.func 118) #[] #[cap]] w fun e w' => ∃ r, e = .returned (.int .i64 r) ∧ IxP l.length g r ∧ Below w.heap.size w w' := by
  obtain ⟨a1, c1, rfl, -, hl1, -, hcell⟩ := h.form
  have HG := Lib.hid hg
  clear h hg
  go_enter Tryz.func108, Tryz.ntmps108
  go_wp2
  go_loopw [8] (fun i wx => IxR l.length g w i wx) (fun i _ => l.length - (intOf i).toNat)
  case atStart => exact ⟨0, by omega, rfl, fun j hj => absurd hj (Nat.not_lt_zero _), Below.refl _ _⟩
  case round =>
    obtain ⟨k, hk, rfl, hall, hb⟩ := hrel
    have HA := Lib.hid hall
    clear hall
    by_cases hlt : k < l.length
    · obtain ⟨b, off, rfl, hbl, hc⟩ := hcell (by omega)
      have hk1 := (bcell hb _ _ hbl).trans (hc k hlt)
      clear hc hcell
      cases g1 : g k with
      | true =>
        have HK : Hid (_ = true) := Lib.hid g1
        have HC := Lib.hid (HG.out _ hb k hlt)
        rw [g1] at HC
        clear g1
        go_wp2_with (go_at_call 118; refine (HC.out).mono ?_; rintro e w1 ⟨rfl, hb1⟩)
        go_ret
        exact ⟨_, rfl, .inr ⟨k, hlt, rfl, HK.out, HA.out⟩, bon hb hb1⟩
      | false =>
        have HN := Lib.hid (lt_succ_all HA.out g1)
        have HC := Lib.hid (HG.out _ hb k hlt)
        rw [g1] at HC
        clear g1
        go_wp2_with (go_at_call 118; refine (HC.out).mono ?_; rintro e w1 ⟨rfl, hb1⟩)
        first
          | (go_roundw
             case rel => (exact ⟨k + 1, by omega, by go_num, HN.out, bon hb hb1⟩)
             case measure => (simp [intOf]; omega))
          | (refine ⟨?_, ?_⟩
             · (exact ⟨k + 1, by omega, by go_num, HN.out, bon hb hb1⟩)
             · (simp [intOf]; omega))
    · have HN : Hid (∀ j, j < l.length → g j = false) := Lib.hid (fun j hj => HA.out j (by omega))
      go_wp2
      go_ret
      exact ⟨_, rfl, .inl ⟨rfl, HN.out⟩, hb⟩
theorem firI_ix {n : Nat} {g : Nat → Bool} {r : Int} (h : IxP n g r) (hany : ∃ j, j < n ∧ g j = true) : r = (firI g n : Nat) ∧ firI g n < n ∧ g (firI g n) = true := by
  rcases h with ⟨-, h⟩ | ⟨i, hi, rfl, h1, h2⟩
  · obtain ⟨j, hj, hg⟩ := hany
    rw [h j hj] at hg; cases hg
  · have e : firI g n = i := by
      unfold firI
      have : (List.range n).find? g = some i := List.find?_eq_some_iff_getElem.2 ⟨h1, i, by simpa using hi, by simp, fun j hj => by simp [h2 j hj]⟩
      rw [this]; rfl
    rw [e]
    exact ⟨rfl, hi, h1⟩
theorem body_lit {r : GR} {m : List Int} (hs : r.sum = false) (hb : bodyT r m = false) : ∃ j, j < r.body.length ∧ (!litT m (ix r.body j)) = true := by
  unfold bodyT at hb
  rw [hs, if_neg Bool.false_ne_true] at hb
  refine Classical.byContradiction fun hno => ?_
  rw [allR_true fun j hj => ?_] at hb
  · cases hb
  · cases h : litT m (ix r.body j) with
    | true => rfl
    | false => exact absurd ⟨j, hj, by rw [h]; rfl⟩ hno
theorem RuleIs.bodyOf {W : World} {a c d f vh vb : Value} {r : GR} (h : RuleIs W (.agg #[a, vh, c, d, vb, f]) r) : Ints W vb r.body := by
  obtain ⟨_, _, _, e, h⟩ := h
  injection e with e
  have e := congrArg Array.toList e
  simp only [List.cons.injEq, and_true] at e
  obtain ⟨-, -, -, -, e1, -⟩ := e
  rw [e1]; exact h.body
theorem RuleIs.headOf {W : World} {a c d f vh vb : Value} {r : GR} (h : RuleIs W (.agg #[a, vh, c, d, vb, f]) r) : Ints W vh r.head := by
  obtain ⟨_, _, _, e, h⟩ := h
  injection e with e
  have e := congrArg Array.toList e
  simp only [List.cons.injEq, and_true] at e
  obtain ⟨-, e1, -⟩ := e
  rw [e1]; exact h.head
set_option maxHeartbeats 4000000 in
set_option maxRecDepth 100000 in
theorem block_any (vr vset : Value) (r : GR) (m : List Int) (n : Int) (w : World) (hr : RuleIs w vr r) (hm : Ints w vset m) (hml : m.length ≤ 1000000000) (hV : BodyV r n) (hmod : satT r m = true) :
    Calls Tryz.prog 59 #[vr, vset] w fun e w' => e = .returned (bkVal (blkB r m 0)) ∧ Below w.heap.size w w' := by
  have hr0 := hr
  obtain ⟨vh, vb, vw, rfl, hsl⟩ := hr
  obtain ⟨am, cm, rfl, -⟩ := id hm.form
  obtain ⟨a1, c1, rfl, -, hl1, -, -⟩ := hsl.head.form
  obtain ⟨a2, c2, rfl, -, hl2, -, -⟩ := hsl.body.form
  have hal := bal (bal (bal (Below.refl w.heap.size w) (.cells #[.bool r.choice, .slice a1 r.head.length c1, .bool r.sum, .int .i64 r.bound, .slice a2 r.body.length c2, vw] 60)) (.cells #[.slice am m.length cm] 23)) (.cells #[.int .i64 0, .int .u8 0, .int .i64 0] 65)
  have HX0 : Hid (Blk (((w.alloc (.cells #[.bool r.choice, .slice a1 r.head.length c1, .bool r.sum, .int .i64 r.bound, .slice a2 r.body.length c2, vw] 60)).alloc (.cells #[.slice am m.length cm] 23)).alloc (.cells #[.int .i64 0, .int .u8 0, .int .i64 0] 65)) w.heap.size [.bool r.choice, .slice a1 r.head.length c1, .bool r.sum, .int .i64 r.bound, .slice a2 r.body.length c2, vw] 60) := Lib.hid (((Blk.new w [.bool r.choice, .slice a1 r.head.length c1, .bool r.sum, .int .i64 r.bound, .slice a2 r.body.length c2, vw] _).alloc _).alloc _)
  have HY0 : Hid (Blk (((w.alloc (.cells #[.bool r.choice, .slice a1 r.head.length c1, .bool r.sum, .int .i64 r.bound, .slice a2 r.body.length c2, vw] 60)).alloc (.cells #[.slice am m.length cm] 23)).alloc (.cells #[.int .i64 0, .int .u8 0, .int .i64 0] 65)) (w.heap.size + 1) [.slice am m.length cm] 23) := Lib.hid ((Blk.new2 w _ [.slice am m.length cm] _).alloc _)
  have HZ0 : Hid (Blk (((w.alloc (.cells #[.bool r.choice, .slice a1 r.head.length c1, .bool r.sum, .int .i64 r.bound, .slice a2 r.body.length c2, vw] 60)).alloc (.cells #[.slice am m.length cm] 23)).alloc (.cells #[.int .i64 0, .int .u8 0, .int .i64 0] 65)) (w.heap.size + 1 + 1) [.int .i64 0, .int .u8 0, .int .i64 0] 65) := Lib.hid (Blk.newAt _ _ _ (by simp))
  have HR0 := Lib.hid (hr0.below hal)
  have HM0 := Lib.hid (hm.below hal)
  have HB0 := Lib.hid hal
  have HV := Lib.hid hV
  have HLT : Hid (∀ j, j < r.body.length → -9223372036854775808 < ix r.body j ∧ ix r.body j ≤ 9223372036854775807) := Lib.hid (fun j hj => ⟨hV.ok.lit j hj, (hsl.body.2 j).2⟩)
  clear hr0 hsl hm hal hV
  go_enter Tryz.func59, Tryz.ntmps59
  go_upto_region 1 with fail
  have kr0 := HX0.out.cell
  have km0 := HY0.out.cell 0
  have kz0 := HZ0.out.cell
  generalize ((w.alloc (.cells #[.bool r.choice, .slice a1 r.head.length c1, .bool r.sum, .int .i64 r.bound, .slice a2 r.body.length c2, vw] 60)).alloc (.cells #[.slice am m.length cm] 23)).alloc (.cells #[.int .i64 0, .int .u8 0, .int .i64 0] 65) = W0 at *
  cases hb : bodyT r m with
  | false =>
    have HBT := Lib.hid hb
    cases hs : r.sum with
    | true =>
      have HF : Hid (blkB r m 0 = ⟨0, 2, 0⟩) := Lib.hid (by unfold blkB; rw [if_pos hb, if_pos hs])
      have HSU := Lib.hid hs
      clear hb hs
      go_wp2_with ((go_at_call 32; (with_reducible refine (rBody_any _ _ r m _ HR0.out HM0.out hml HV.out).mono ?_); rintro e w1 ⟨e1, hb1⟩; rw [HBT.out] at e1; subst e1; have HR1 := Lib.hid (HR0.out.below hb1); have HM1 := Lib.hid (HM0.out.below hb1); have HX1 := Lib.hid (HX0.out.below hb1); have HY1 := Lib.hid (HY0.out.below hb1); have HZ1 := Lib.hid (HZ0.out.below hb1); have kr1 := HX1.out.cell; have km1 := HY1.out.cell 0; have kz1 := HZ1.out.cell; have fz1 := HZ1.out.free; have HB1 := Lib.hid (bon HB0.out hb1); clear hb1); rw [HSU.out] at kr1)
      have hz9 := ((HZ1.out.set 0 (.int .i64 0)).set 1 (.int .u8 2)).set 2 (.int .i64 0)
      simp only [List.set_cons_zero, List.set_cons_succ] at hz9
      have kz9 := hz9.cell
      have hb9 := ((HB1.out.setCell (p := ⟨w.heap.size + 1 + 1, 0, none⟩) (by show w.heap.size ≤ w.heap.size + 1 + 1; omega) (.int .i64 0)).setCell (p := ⟨w.heap.size + 1 + 1, 1, none⟩) (by show w.heap.size ≤ w.heap.size + 1 + 1; omega) (.int .u8 2)).setCell (p := ⟨w.heap.size + 1 + 1, 2, none⟩) (by show w.heap.size ≤ w.heap.size + 1 + 1; omega) (.int .i64 0)
      generalize ((w1.setCell ⟨w.heap.size + 1 + 1, 0, none⟩ (.int .i64 0)).setCell ⟨w.heap.size + 1 + 1, 1, none⟩ (.int .u8 2)).setCell ⟨w.heap.size + 1 + 1, 2, none⟩ (.int .i64 0) = W9 at *
      refine bodyPost_ret (v := .agg #[.int .i64 0, .int .u8 2, .int .i64 0]) ?_ rfl ⟨by rw [HF.out]; rfl, hb9⟩
      simp [results, Tryz.f59, go_sem, kz9]
    | false =>
      have HSU := Lib.hid hs
      have HAN := Lib.hid (body_lit hs hb)
      have hF : blkB r m 0 = ⟨0, 1, ix r.body (firI (fun j => !litT m (ix r.body j)) r.body.length)⟩ := by unfold blkB; rw [if_pos hb, if_neg (by rw [hs]; exact Bool.false_ne_true)]
      clear hb hs
      go_upto_region 4 with (first | ((go_at_call 32; (with_reducible refine (rBody_any _ _ r m _ HR1.out HM1.out hml HV.out).mono ?_); rintro e w2 ⟨e2, hb2⟩; rw [HBT.out] at e2; subst e2; have HR2 := Lib.hid (HR1.out.below hb2); have HM2 := Lib.hid (HM1.out.below hb2); have HX2 := Lib.hid (HX1.out.below hb2); have HY2 := Lib.hid (HY1.out.below hb2); have HZ2 := Lib.hid (HZ1.out.below hb2); have kr2 := HX2.out.cell; have km2 := HY2.out.cell 0; have kz2 := HZ2.out.cell; have fz2 := HZ2.out.free; have HB2 := Lib.hid (bon HB1.out hb2); clear hb2); rw [HSU.out] at kr2) | ((go_at_call 32; (with_reducible refine (rBody_any _ _ r m _ HR0.out HM0.out hml HV.out).mono ?_); rintro e w1 ⟨e1, hb1⟩; rw [HBT.out] at e1; subst e1; have HR1 := Lib.hid (HR0.out.below hb1); have HM1 := Lib.hid (HM0.out.below hb1); have HX1 := Lib.hid (HX0.out.below hb1); have HY1 := Lib.hid (HY0.out.below hb1); have HZ1 := Lib.hid (HZ0.out.below hb1); have kr1 := HX1.out.cell; have km1 := HY1.out.cell 0; have kz1 := HZ1.out.cell; have fz1 := HZ1.out.free; have HB1 := Lib.hid (bon HB0.out hb1); clear hb1); rw [HSU.out] at kr1 HR1))
      have HCB : Hid (∀ w', Below w2.heap.size w2 w' → ∀ j, j < r.body.length → Calls Tryz.prog 117 #[.int .i64 (ix r.body j), .pointer (some ⟨w.heap.size + 1, 0, none⟩)] w' fun e w'' => e = .returned (.bool (!litT m (ix r.body j))) ∧ Below w'.heap.size w' w'') := Lib.hid fun w' hb j hj => bc1_any _ m _ w' ⟨_, HY2.out.below hb, HM2.out.below hb⟩ (HLT.out j hj)
      have HBI := Lib.hid (RuleIs.bodyOf HR2.out)
      go_upto_region 5 with (go_at_call 108; (with_reducible refine (idx_bc1 _ r.body w2 HBI.out (fun j => !litT m (ix r.body j)) _ HCB.out).mono ?_); rintro e w3 ⟨ri, rfl, hri, hb3⟩; have HBI3 := Lib.hid (HBI.out.below hb3); obtain ⟨hr1, hr2, -⟩ := firI_ix hri HAN.out; have HR3 := Lib.hid (HR2.out.below hb3); have HM3 := Lib.hid (HM2.out.below hb3); have HX3 := Lib.hid (HX2.out.below hb3); have HY3 := Lib.hid (HY2.out.below hb3); have HZ3 := Lib.hid (HZ2.out.below hb3); have kr3 := HX3.out.cell; have km3 := HY3.out.cell 0; have kz3 := HZ3.out.cell; have fz3 := HZ3.out.free; have HB3 := Lib.hid (bon HB2.out hb3); clear hb3; rw [HSU.out] at kr3; subst hr1; clear hri)
      obtain ⟨bb, ob, rfl, hbb, hcb⟩ := HBI3.out.at hr2
      have HF := Lib.hid hF
      clear hF
      generalize firI (fun j => !litT m (ix r.body j)) r.body.length = fi at *
      generalize ix r.body fi = xl at *
      go_wp2_with fail
      have hz9 := ((HZ3.out.set 0 (.int .i64 0)).set 1 (.int .u8 1)).set 2 (.int .i64 xl)
      simp only [List.set_cons_zero, List.set_cons_succ] at hz9
      have kz9 := hz9.cell
      have hb9 := ((HB3.out.setCell (p := ⟨w.heap.size + 1 + 1, 0, none⟩) (by show w.heap.size ≤ w.heap.size + 1 + 1; omega) (.int .i64 0)).setCell (p := ⟨w.heap.size + 1 + 1, 1, none⟩) (by show w.heap.size ≤ w.heap.size + 1 + 1; omega) (.int .u8 1)).setCell (p := ⟨w.heap.size + 1 + 1, 2, none⟩) (by show w.heap.size ≤ w.heap.size + 1 + 1; omega) (.int .i64 xl)
      generalize ((w3.setCell ⟨w.heap.size + 1 + 1, 0, none⟩ (.int .i64 0)).setCell ⟨w.heap.size + 1 + 1, 1, none⟩ (.int .u8 1)).setCell ⟨w.heap.size + 1 + 1, 2, none⟩ (.int .i64 xl) = W9 at *
      refine bodyPost_ret (v := .agg #[.int .i64 0, .int .u8 1, .int .i64 xl]) ?_ rfl ⟨by rw [HF.out]; rfl, hb9⟩
      simp [results, Tryz.f59, go_sem, kz9]
  | true =>
    have HBT := Lib.hid hb
    cases hc : r.choice with
    | true =>
      have hF : blkB r m 0 = ⟨0, 4, 0⟩ := by unfold blkB; rw [if_neg (by rw [hb]; exact Bool.noConfusion), if_pos hc]
      have HF := Lib.hid hF
      have HCH := Lib.hid hc
      clear hb hc hF
      go_wp2_with (first | ((go_at_call 32; (with_reducible refine (rBody_any _ _ r m _ HR1.out HM1.out hml HV.out).mono ?_); rintro e w2 ⟨e2, hb2⟩; rw [HBT.out] at e2; subst e2; have HR2 := Lib.hid (HR1.out.below hb2); have HM2 := Lib.hid (HM1.out.below hb2); have HX2 := Lib.hid (HX1.out.below hb2); have HY2 := Lib.hid (HY1.out.below hb2); have HZ2 := Lib.hid (HZ1.out.below hb2); have kr2 := HX2.out.cell; have km2 := HY2.out.cell 0; have kz2 := HZ2.out.cell; have fz2 := HZ2.out.free; have HB2 := Lib.hid (bon HB1.out hb2); clear hb2); rw [HCH.out] at kr2) | ((go_at_call 32; (with_reducible refine (rBody_any _ _ r m _ HR0.out HM0.out hml HV.out).mono ?_); rintro e w1 ⟨e1, hb1⟩; rw [HBT.out] at e1; subst e1; have HR1 := Lib.hid (HR0.out.below hb1); have HM1 := Lib.hid (HM0.out.below hb1); have HX1 := Lib.hid (HX0.out.below hb1); have HY1 := Lib.hid (HY0.out.below hb1); have HZ1 := Lib.hid (HZ0.out.below hb1); have kr1 := HX1.out.cell; have km1 := HY1.out.cell 0; have kz1 := HZ1.out.cell; have fz1 := HZ1.out.free; have HB1 := Lib.hid (bon HB0.out hb1); clear hb1); rw [HCH.out] at kr1 HR1))
      have hz9 := ((HZ2.out.set 0 (.int .i64 0)).set 1 (.int .u8 4)).set 2 (.int .i64 0)
      simp only [List.set_cons_zero, List.set_cons_succ] at hz9
      have kz9 := hz9.cell
      have hb9 := ((HB2.out.setCell (p := ⟨w.heap.size + 1 + 1, 0, none⟩) (by show w.heap.size ≤ w.heap.size + 1 + 1; omega) (.int .i64 0)).setCell (p := ⟨w.heap.size + 1 + 1, 1, none⟩) (by show w.heap.size ≤ w.heap.size + 1 + 1; omega) (.int .u8 4)).setCell (p := ⟨w.heap.size + 1 + 1, 2, none⟩) (by show w.heap.size ≤ w.heap.size + 1 + 1; omega) (.int .i64 0)
      generalize ((w2.setCell ⟨w.heap.size + 1 + 1, 0, none⟩ (.int .i64 0)).setCell ⟨w.heap.size + 1 + 1, 1, none⟩ (.int .u8 4)).setCell ⟨w.heap.size + 1 + 1, 2, none⟩ (.int .i64 0) = W9 at *
      refine bodyPost_ret (v := .agg #[.int .i64 0, .int .u8 4, .int .i64 0]) ?_ rfl ⟨by rw [HF.out]; rfl, hb9⟩
      simp [results, Tryz.f59, go_sem, kz9]
    | false =>
      have HAN : Hid (∃ j, j < r.head.length ∧ decide (ix r.head j ∈ m) = true) := Lib.hid (by
        unfold satT at hmod
        rw [hc, hb] at hmod
        exact anyR_some (by simpa using hmod))
      have hF : blkB r m 0 = ⟨0, 3, ix r.head (firI (fun j => decide (ix r.head j ∈ m)) r.head.length)⟩ := by unfold blkB; rw [if_neg (by rw [hb]; exact Bool.noConfusion), if_neg (by rw [hc]; exact Bool.false_ne_true)]
      have HF := Lib.hid hF
      have HCH := Lib.hid hc
      clear hb hc hF
      go_upto_region 8 with (first | ((go_at_call 32; (with_reducible refine (rBody_any _ _ r m _ HR1.out HM1.out hml HV.out).mono ?_); rintro e w2 ⟨e2, hb2⟩; rw [HBT.out] at e2; subst e2; have HR2 := Lib.hid (HR1.out.below hb2); have HM2 := Lib.hid (HM1.out.below hb2); have HX2 := Lib.hid (HX1.out.below hb2); have HY2 := Lib.hid (HY1.out.below hb2); have HZ2 := Lib.hid (HZ1.out.below hb2); have kr2 := HX2.out.cell; have km2 := HY2.out.cell 0; have kz2 := HZ2.out.cell; have fz2 := HZ2.out.free; have HB2 := Lib.hid (bon HB1.out hb2); clear hb2); rw [HCH.out] at kr2) | ((go_at_call 32; (with_reducible refine (rBody_any _ _ r m _ HR0.out HM0.out hml HV.out).mono ?_); rintro e w1 ⟨e1, hb1⟩; rw [HBT.out] at e1; subst e1; have HR1 := Lib.hid (HR0.out.below hb1); have HM1 := Lib.hid (HM0.out.below hb1); have HX1 := Lib.hid (HX0.out.below hb1); have HY1 := Lib.hid (HY0.out.below hb1); have HZ1 := Lib.hid (HZ0.out.below hb1); have kr1 := HX1.out.cell; have km1 := HY1.out.cell 0; have kz1 := HZ1.out.cell; have fz1 := HZ1.out.free; have HB1 := Lib.hid (bon HB0.out hb1); clear hb1); rw [HCH.out] at kr1 HR1))
      have HCB : Hid (∀ w', Below w2.heap.size w2 w' → ∀ j, j < r.head.length → Calls Tryz.prog 118 #[.int .i64 (ix r.head j), .pointer (some ⟨w.heap.size + 1, 0, none⟩)] w' fun e w'' => e = .returned (.bool (decide (ix r.head j ∈ m))) ∧ Below w'.heap.size w' w'') := Lib.hid fun w' hb j hj => bc2_any _ m _ w' ⟨_, HY2.out.below hb, HM2.out.below hb⟩
      have HBI := Lib.hid (RuleIs.headOf HR2.out)
      go_upto_region 9 with (go_at_call 108; (with_reducible refine (idx_bc2 _ r.head w2 HBI.out (fun j => decide (ix r.head j ∈ m)) _ HCB.out).mono ?_); rintro e w3 ⟨ri, rfl, hri, hb3⟩; have HBI3 := Lib.hid (HBI.out.below hb3); obtain ⟨hr1, hr2, -⟩ := firI_ix hri HAN.out; have HR3 := Lib.hid (HR2.out.below hb3); have HM3 := Lib.hid (HM2.out.below hb3); have HX3 := Lib.hid (HX2.out.below hb3); have HY3 := Lib.hid (HY2.out.below hb3); have HZ3 := Lib.hid (HZ2.out.below hb3); have kr3 := HX3.out.cell; have km3 := HY3.out.cell 0; have kz3 := HZ3.out.cell; have fz3 := HZ3.out.free; have HB3 := Lib.hid (bon HB2.out hb3); clear hb3; rw [HCH.out] at kr3; subst hr1; clear hri)
      obtain ⟨bb, ob, rfl, hbb, hcb⟩ := HBI3.out.at hr2
      generalize firI (fun j => decide (ix r.head j ∈ m)) r.head.length = fi at *
      generalize ix r.head fi = xl at *
      go_wp2_with fail
      have hz9 := ((HZ3.out.set 0 (.int .i64 0)).set 1 (.int .u8 3)).set 2 (.int .i64 xl)
      simp only [List.set_cons_zero, List.set_cons_succ] at hz9
      have kz9 := hz9.cell
      have hb9 := ((HB3.out.setCell (p := ⟨w.heap.size + 1 + 1, 0, none⟩) (by show w.heap.size ≤ w.heap.size + 1 + 1; omega) (.int .i64 0)).setCell (p := ⟨w.heap.size + 1 + 1, 1, none⟩) (by show w.heap.size ≤ w.heap.size + 1 + 1; omega) (.int .u8 3)).setCell (p := ⟨w.heap.size + 1 + 1, 2, none⟩) (by show w.heap.size ≤ w.heap.size + 1 + 1; omega) (.int .i64 xl)
      generalize ((w3.setCell ⟨w.heap.size + 1 + 1, 0, none⟩ (.int .i64 0)).setCell ⟨w.heap.size + 1 + 1, 1, none⟩ (.int .u8 3)).setCell ⟨w.heap.size + 1 + 1, 2, none⟩ (.int .i64 xl) = W9 at *
      refine bodyPost_ret (v := .agg #[.int .i64 0, .int .u8 3, .int .i64 xl]) ?_ rfl ⟨by rw [HF.out]; rfl, hb9⟩
      simp [results, Tryz.f59, go_sem, kz9]
def bkCell (b : BK) : Nat → Value
  | 0 => .int .i64 b.rule
  | 1 => .int .u8 b.kind
  | _ => .int .i64 b.lit
def BlksIs (w : World) (v : Value) (l : List BK) : Prop := Rows w v 3 24 l.length (fun i => bkCell (ixK l i)) ∧ ∀ y ∈ l, BI y
theorem BlksIs.below {w w' : World} {v : Value} {l : List BK} (h : BlksIs w v l) (hb : Below w.heap.size w w') : BlksIs w' v l := ⟨h.1.below hb, h.2⟩
def BlkCells (w : World) (b o : Nat) (y : BK) : Prop := w.cell? ⟨b, o, none⟩ = some (.int .i64 y.rule) ∧ w.cell? ⟨b, o + 1, none⟩ = some (.int .u8 y.kind) ∧ w.cell? ⟨b, o + 2, none⟩ = some (.int .i64 y.lit)
theorem BlkCells.below {w w' : World} {b o : Nat} {y : BK} (h : BlkCells w b o y) (hb : Below w.heap.size w w') (hl : b < w.heap.size) : BlkCells w' b o y :=
  ⟨(bcell hb _ _ hl).trans h.1, (bcell hb _ _ hl).trans h.2.1, (bcell hb _ _ hl).trans h.2.2⟩
theorem ixK_mem0 {l : List BK} {i : Nat} (hi : i < l.length) : ixK l i ∈ l := by
  simp only [ixK, List.getD_eq_getElem?_getD, List.getElem?_eq_getElem hi, Option.getD_some]
  exact List.getElem_mem hi
theorem BlksIs.form {w : World} {v : Value} {l : List BK} (h : BlksIs w v l) : ∃ a cap, v = .slice a l.length cap ∧ l.length ≤ cap ∧ l.length ≤ 1000000000000000 ∧ cap ≤ maxLen ∧
    (0 < l.length → ∃ b off, a = some ⟨b, off, none⟩ ∧ b < w.heap.size ∧ ∀ i, i < l.length → BlkCells w b (off + i * 3) (ixK l i)) := by
  obtain ⟨⟨a, cap, rfl, h1, hm, h2, h3⟩, h4⟩ := h
  refine ⟨a, cap, rfl, h1, by omega, hm, fun hp => ?_⟩
  obtain ⟨b, off, e, hl, hc⟩ := h3 hp
  exact ⟨b, off, e, hl, fun i hi => ⟨hc i hi 0 (by omega), hc i hi 1 (by omega), hc i hi 2 (by omega)⟩⟩
def MineK (B : Nat) (v : Value) (l : List BK) (w : World) : Prop := w.ownsRow B 65 3 v l.length (l.flatMap cellsK) ∧ ∀ y ∈ l, BI y
theorem MineK.row {B : Nat} {v : Value} {l : List BK} {w : World} (h : MineK B v l w) : w.ownsRow B 65 3 v l.length (l.flatMap cellsK) := h.1
theorem MineK.nil (B : Nat) (w : World) : MineK B (.slice none 0 0) [] w := ⟨⟨by simp, .inl ⟨rfl, rfl⟩⟩, fun y hy => by cases hy⟩
theorem infoK : (Tryz.prog.info? 65).map (fun i => (i.zero, i.size, i.bytes)) = some (some (.agg #[.int .i64 0, .int .u8 0, .int .i64 0]), 3, 24) := by kernel_rfl
section
variable {B : Nat} {v : Value} {l : List BK} {w w' : World}
theorem MineK.slen (h : MineK B v l w) : ∃ a c, v = .slice a l.length c := by
  rcases h.1.2 with ⟨rfl, h0⟩ | ⟨g, cap, cur, rfl, _⟩
  · rw [h0]; exact ⟨_, _, rfl⟩
  · exact ⟨_, _, rfl⟩
theorem MineK.same (h : MineK B v l w) (hs : ∀ i, B ≤ i → i < w.heap.size → v.ownBlock = some i → w'.heap[i]? = w.heap[i]?) : MineK B v l w' := by
  refine ⟨⟨h.1.1, ?_⟩, h.2⟩
  rcases h.1.2 with hn | ⟨g, cap, cur, rfl, hb, hg, rest⟩
  · exact .inl hn
  · exact .inr ⟨g, cap, cur, rfl, hb, (hs g hb (Array.getElem?_eq_some_iff.1 hg).1 rfl).trans hg, rest⟩
theorem MineK.below (h : MineK B v l w) (hb : Below w.heap.size w w') : MineK B v l w' := h.same fun i _ hi _ => hb.block i hi
theorem MineK.mono {B' : Nat} (h : MineK B v l w) (hb : B' ≤ B) : MineK B' v l w := by
  refine ⟨⟨h.1.1, ?_⟩, h.2⟩
  rcases h.1.2 with hn | ⟨g, cap, cur, rfl, hg, rest⟩
  · exact .inl hn
  · exact .inr ⟨g, cap, cur, rfl, Nat.le_trans hb hg, rest⟩
theorem MineK.far (h : MineK B v l w) {b : Nat} {c : List Value} {T : TypeId} (hb : Blk w b c T) (hT : T ≠ 65) : v.ownBlock ≠ some b := fun e => by
  rcases h.1.2 with ⟨rfl, _⟩ | ⟨g, cap, cur, rfl, hg, hgg, _⟩
  · cases e
  · have : g = b := by simpa [Value.ownBlock] using e
    subst this
    unfold Blk at hb
    rw [hb] at hgg
    injection hgg with hgg
    injection hgg with _ h2 _
    exact hT h2
theorem MineK.lt (h : MineK B v l w) {g : Nat} (e : v.ownBlock = some g) : B ≤ g ∧ g < w.heap.size := by
  rcases h.1.2 with ⟨rfl, _⟩ | ⟨g', cap, cur, rfl, hb, hg, _⟩
  · cases e
  · have : g' = g := by simpa [Value.ownBlock] using e
    subst this
    exact ⟨hb, (Array.getElem?_eq_some_iff.1 hg).1⟩
theorem flatK : ∀ (L : List BK) (i j : Nat), i < L.length → j < 3 → (L.flatMap cellsK)[i * 3 + j]? = (cellsK (ixK L i))[j]?
  | [], i, j, h, _ => absurd h (by simp)
  | q :: L, 0, j, _, hj => by
    rw [List.flatMap_cons, List.getElem?_append_left (by simp [cellsK]; omega)]
    simp [ixK]
  | q :: L, i + 1, j, h, hj => by
    rw [List.flatMap_cons, List.getElem?_append_right (by simp [cellsK]; omega)]
    have := flatK L i j (by simpa using h) hj
    rw [show (i + 1) * 3 + j - (cellsK q).length = i * 3 + j by simp [cellsK]; omega, this]
    simp [ixK]
theorem MineK.blks (h : MineK B v l w) (hfit : l.length * 24 ≤ 140737488351232) : BlksIs w v l := by
  refine ⟨?_, h.2⟩
  rcases h.1.2 with ⟨rfl, h0⟩ | ⟨g, cap, cur, rfl, hb, hg, hn, hm, hs, hx⟩
  · exact ⟨none, 0, by rw [h0], by omega, by unfold maxLen; omega, by omega, fun hp => by omega⟩
  · refine ⟨_, cap, rfl, hn, hm, hfit, fun _ => ⟨g, 0, rfl, (Array.getElem?_eq_some_iff.1 hg).1, fun i hi j hj => ?_⟩⟩
    have h6 := flatK l i j hi hj
    rw [← hx, List.getElem?_take_of_lt (by omega)] at h6
    rw [cell_of_row w g (0 + i * 3 + j) cur _ (0, 0) hg, Nat.zero_add]
    have : cur[i * 3 + j]? = cur.toList[i * 3 + j]? := by simp
    rw [this, h6]
    rcases (show j = 0 ∨ j = 1 ∨ j = 2 by omega) with rfl | rfl | rfl <;> rfl
theorem MineK.at {a : Option Addr} {n c k : Nat} (h : MineK B (.slice a n c) l w) (hfit : l.length * 24 ≤ 140737488351232) (hk : k < l.length) : ∃ b off, a = some ⟨b, off, none⟩ ∧ b < w.heap.size ∧ BlkCells w b (off + k * 3) (ixK l k) := by
  obtain ⟨a1, c1, e, -, -, -, hc⟩ := (h.blks hfit).form
  simp only [Value.slice.injEq] at e
  obtain ⟨rfl, -, rfl⟩ := e
  obtain ⟨b, off, e, hb, hcc⟩ := hc (by omega)
  exact ⟨b, off, e, hb, hcc k hk⟩
theorem MineK.one (w : World) {y : BK} (hy : BI y) : MineK w.heap.size (.slice (some ⟨w.heap.size, 0, none⟩) 1 1) [y] (w.alloc (.cells #[.int .i64 y.rule, .int .u8 y.kind, .int .i64 y.lit] 65)) := by
  refine ⟨⟨by simp [cellsK], .inr ⟨w.heap.size, 1, _, rfl, Nat.le_refl _, heap_alloc_new w _, by simp, by unfold maxLen; omega, by simp, by simp [cellsK]⟩⟩, fun z hz => ?_⟩
  obtain rfl : z = y := by simpa using hz
  exact hy
end
theorem wpList_appendK {ops : Array Oper} {rest : List Oper} {o : Oper} {a : Act} {w : World} {Q : Exit → Act → World → Prop} (hgd : o.guard = none) (s x : Operand)
    (ho : o.op = .call { callee := .builtin .append, args := #[s, x], argTypes := #[41, 41] }) (B b0 : Nat) (v y : Value) (L M : List BK) (hs : a.eval s = v) (hx : a.eval x = y) (h : MineK B v L w) (hy : MineK b0 y M w) (hM : 0 < M.length)
    (hlen : L.length + M.length ≤ 1000000000) (hbase : B ≤ w.heap.size)
    (hK : ∀ g cap w', MineK B (.slice (some ⟨g, 0, none⟩) (L.length + M.length) cap) (L ++ M) w' → w.grownBy w' v.ownBlock → wpList Tryz.prog ops Q rest (a.put o.dst (.slice (some ⟨g, 0, none⟩) (L.length + M.length) cap)) w') : wpList Tryz.prog ops Q (o :: rest) a w := by
  obtain ⟨i0, hi, hz0, hz1, hz2⟩ := info_parts infoK
  rcases hy.1.2 with ⟨-, h0⟩ | ⟨g, cap, cur, rfl, hb, hg, hn, hm, hsz, hcl⟩
  · omega
  refine wpList_append_own w hgd s x _ ho B 65 i0 _ 3 24 Tryz.underlying41 hi hz0 hz1 hz2 rfl (by decide) _ L.length (L.flatMap cellsK) hs h.1 ⟨g, 0, none⟩ M.length cap (M.flatMap cellsK) hx (by rw [hy.1.1]) (fun j u hu => ?_) (fun u hu => ?_) (by unfold maxLen; omega) (by omega) hbase (fun v' w' h1 h2 _ => ?_)
  · have hj : j < M.length * 3 := by have := (List.getElem?_eq_some_iff.1 hu).1; rw [hy.1.1] at this; exact this
    rw [Addr.add_lit, Nat.zero_add, cell_of_row w g j cur _ (0, 0) hg]
    rw [← hcl, List.getElem?_take_of_lt hj] at hu
    rw [← hu]; simp
  · obtain ⟨q, hqm, hq⟩ := List.mem_flatMap.1 hu
    simp only [cellsK, List.mem_cons, List.not_mem_nil, or_false] at hq
    rcases hq with rfl | rfl | rfl <;> rfl
  · have hne : ∃ g2 cap2, v' = .slice (some ⟨g2, 0, none⟩) (L.length + M.length) cap2 := by
      rcases h1.2 with ⟨-, h0⟩ | ⟨g2, cap2, cur2, rfl, _⟩
      · omega
      · exact ⟨g2, cap2, rfl⟩
    obtain ⟨g2, cap2, rfl⟩ := hne
    refine hK g2 cap2 w' ⟨by simpa using h1, fun q hq => ?_⟩ h2
    rcases List.mem_append.1 hq with hq | hq
    · exact h.2 q hq
    · exact hy.2 q hq
end Go.Proofs.YtfajkmmmmmfhiaaGreatDoor
