/- My texts ExtR, Pb3, PbS, Aw0, Range, Nrm0, Cmpct, SortI, merged. -/
import Derived.Test.YtjodocheiejkeaaGreatDoorM00
import Derived.Test.YtjodocheiejkeaaGreatDoorProg
import Derived.WalkKit
import Derived.Lib.Hide
import Derived.Deep.QuietTactic
import Derived.BigQuiet
import Derived.Sort.QuietThIn
import Derived.RangeFuncCalls
import Derived.Test.YtjodocheiejkeaaGreatDoorM07
import Derived.Test.YtjodocheiejkeaaGreatDoorM04
import Derived.Test.YtjodocheiejkeaaGreatDoorM03
import Derived.Test.YtjodocheiejkeaaGreatDoorM02
import Derived.WalkSpells
import Derived.Lib.SliceRun
import Derived.MapKept
import Derived.Maps.OwnSet
import Derived.Maps.OwnOps
import Derived.Test.YtjodocheiejkeaaGreatDoorM01
import Derived.Deep.AppendLies
import Derived.Lib.Bytealg
import Derived.Deep.DeepCutAuto
import Derived.RangeFuncNested
import Derived.RangeFuncBound
import Derived.RangeFuncLeaves
import Derived.OwnWalkIn
import Derived.TacticsInMore
import Derived.LoopNIn
import Derived.LoopIn
import Derived.Stop.RegionWithIn
import Derived.Shelf.Abstract
import Derived.Shelf.Sort.Plain
import Derived.Shelf.Slices.CompactI
import Derived.Shelf.Slices.In.SortNone
import Derived.Shelf.Strconv.Itoa3
import Derived.Shelf.Strings.BuilderK
import Derived.Test.YtjodocheiejkeaaGreatDoorM05
import Derived.Test.YtjodocheiejkeaaGreatDoorM06
import Derived.Laws.EntriesVeiled
import Derived.Deep.RegionWith
import Derived.Deep.OwnRows
import Derived.Maps.RangeWalk
import Derived.Lib.SlicesCompact
import Derived.Sort.OwnSortedInts

namespace Go.Proofs.YtjodocheiejkeaaGreatDoor
open Go.RowKit
def noDefer (o : Oper) : Bool := match o.op with
  | .defer _ => false
  | _ => true
theorem noDefer_ne {o : Oper} (h : noDefer o = true) : ∀ c, o.op ≠ .defer c := by
  intro c e
  simp [noDefer, e] at h
section
variable {F : Fence} {n : Nat} {P : Program} {ops : Array Oper} {Q : Exit → Act → World → Prop}
theorem upon_inRound (r : Nat) {o : Oper} {a : Act} {next : Act → World → Prop} {x : Result Next} (h : o.uponIn F n P a next Q x) : o.uponIn (F.inRound r) n P a next Q x := by
  unfold Oper.uponIn at *
  split at h
  all_goals first | exact h | exact h.elim
theorem oper_inRound (r : Nat) (_hro : F.round = none) {o : Oper} (hd : noDefer o = true) {a : Act} {w : World} {next : Act → World → Prop} (h : o.wpIn F n P a w next Q) : o.wpIn (F.inRound r) n P a w next Q := by
  unfold Oper.wpIn at *
  refine ⟨h.1, ?_⟩
  have h2 := h.2
  rw [Oper.semAt_eq _ _ _ (noDefer_ne hd)] at h2
  rw [Oper.semAt_eq _ _ _ (noDefer_ne hd)]
  exact upon_inRound r h2
theorem ops_inRound (r : Nat) (hro : F.round = none) (hd : ops.all noDefer = true) : ∀ (l : List Nat) (a : Act) (w : World), wpOpsIn F n P ops Q l a w → wpOpsIn (F.inRound r) n P ops Q l a w
  | [], _, _, h => h
  | i :: rest, a, w, h => by
    simp only [wpOpsIn] at *
    cases ho : ops[i]? with
    | none =>
      simp only [ho] at h
      exact ops_inRound r hro hd rest a w h
    | some o =>
      simp only [ho] at h ⊢
      have hdo : noDefer o = true := by
        obtain ⟨hi, rfl⟩ := Array.getElem?_eq_some_iff.1 ho
        exact (Array.all_eq_true.1 hd) i hi
      split at h
      · rename_i hw
        rw [if_pos hw]
        exact oper_inRound r hro hdo (Oper.wpIn_mono (fun a w h => ops_inRound r hro hd rest a w h) h)
      · rename_i hw
        rw [if_neg hw]
        exact ⟨h.1, ops_inRound r hro hd rest _ _ h.2⟩
theorem quiet_wide {C : World → Prop} {K : Act → Prop} : ∀ (l : List Oper) (a : Act), wpQuiet P ops C K l a → wpQuietIn Fence.wide n P ops C K l a
  | [], _, h => h
  | o :: rest, a, h => by
    refine ⟨fun _ _ _ _ => trivial, ?_⟩
    simp only [wpQuiet] at h
    split
    · rename_i hw
      rw [if_pos hw] at h
      obtain ⟨v, h1, h2⟩ := h
      refine ⟨v, fun w hC => ?_, quiet_wide rest _ h2⟩
      have h3 := h1 w hC
      unfold Oper.quietAt at h3
      unfold Oper.quietAtIn
      cases hx : (execOp a.eval o).run P w with
      | halt s w' => rw [hx] at h3; exact h3.elim
      | ok x w' =>
        rw [hx] at h3
        cases x with
        | value u => exact h3
        | skip => exact h3
        | enter f args => exact ⟨h3.1, (fun e => by cases e), callsIn_wide.2 h3.2⟩
        | _ => exact h3.elim
    · rename_i hw
      rw [if_neg hw] at h
      exact quiet_wide rest _ h
end
theorem wp_region_extR {P : Program} {id n r : Nat} {Q : Exit → Act → World → Prop} {a : Act} {w : World} {l : List Oper} (hm : P.follows .mixedOrders = true) (hB : Region.lexB .any l.toArray = true) (hd : l.toArray.all noDefer = true)
    (h : wpQuiet P l.toArray (fun w' => ∃ e : Ext w, w' = e.world) (fun a' => ∀ w', (∃ e : Ext w, w' = e.world) → Q .normal a' w') l a) : (Code.region id l.toArray true).wpIn (Fence.wide.inRound r) n P Q a w := by
  refine wpIn_region_draw fun t => ops_inRound r rfl hd _ _ _ ?_
  simp only [Region.lexB, Bool.and_eq_true] at hB
  simp only [Region.schedule, hm, Bool.true_or, if_true]
  refine wpAnyIn_sound _ t _ a _ (wpAnyIn_of_quiet (F := Fence.wide) (n := n) (C := fun w' => ∃ e : Ext w, w' = e.world) (Q := fun a' => ∀ w', (∃ e : Ext w, w' = e.world) → Q .normal a' w') rfl (fun _ w' hw' h => h w' hw') _ _ _ _ ⟨⟨_, (Below.refl _ w).drew⟩, rfl⟩ ?_)
  have := wpAnyQIn_lex (F := Fence.wide) (n := n) (C := fun w' => ∃ e : Ext w, w' = e.world) (md := .any) hB.1 l.toArray.toList 0 (Array.replicate l.toArray.size false) a (by simp) (by simpa using hB.2) (by simpa using quiet_wide (n := n) _ _ h)
  simpa using this
end Go.Proofs.YtjodocheiejkeaaGreatDoor
namespace Go.Proofs.YtjodocheiejkeaaGreatDoor
open Go.RowKit Go.Shelf
attribute [local go_sem] Oper.semAt_some
structure VSt (c : PBC) (H : Nat) (w : World) (vl vk : Value) (pre : List (PV c)) (W : World) : Prop where
  ok : okF c.bound 0 (pvs pre) = true
  box : Blk W H [vl, vk, .int .i64 c.bound] 46
  res : Blk W (H + 1) [.bool false] 4
  last : Blk W (H + 1 + 1) [.int .i64 (lastF 0 (pvs pre))] 3
  sum : Blk W (H + 1 + 1 + 1) [.int .i64 (sumP (pvs pre))] 3
structure Up (w w1 W : World) : Prop where
  below : Below w.heap.size w W
  size : w1.heap.size ≤ W.heap.size
theorem Up.on {w w1 W W' : World} (h : Up w w1 W) (hb : Below W.heap.size W W') : Up w w1 W' := ⟨bon h.below hb, Nat.le_trans h.size hb.size⟩
theorem Up.set {w w1 W : World} (h : Up w w1 W) (b o : Nat) (v : Value) (hb : w.heap.size ≤ b) : Up w w1 (W.setCell ⟨b, o, none⟩ v) := ⟨h.below.setCell (p := ⟨b, o, none⟩) hb v, by rw [size_set]; exact h.size⟩
theorem Up.own {β : Type} {w w1 : World} {B : Nat} (hB : w.heap.size ≤ B) : OwnFrom B (fun (_ : β) W => Up w w1 W) := fun s X Y row hs hg hr =>
  ⟨ownFrom_below (Nat.le_refl _) hB s X Y row hs.below hg hr, Nat.le_trans hs.size hg.size⟩
theorem VSt.own {c : PBC} {H B : Nat} {w : World} {vl vk : Value} : OwnFrom B (fun pre W => VSt c H w vl vk pre W) := fun pre X Y row hs hg hrow => by
  have hr : ∀ r, row = some r → ∃ o : Obj, X.heap[r]? = some o ∧ o.isCells = false := fun r e => (hrow r e).2
  exact ⟨hs.ok, blk_ownP _ _ _ () X Y row hs.box hg hr, blk_ownP _ _ _ () X Y row hs.res hg hr, blk_ownP _ _ _ () X Y row hs.last hg hr, blk_ownP _ _ _ () X Y row hs.sum hg hr⟩
theorem pbV_of {c : PBC} (h1 : c.lits.length = c.coefs.length) (h2 : 0 ≤ c.bound ∧ c.bound ≤ 16777216) : pbV c = (okF c.bound 0 (c.lits.zip c.coefs) && (decide (c.bound ≤ sumP (c.lits.zip c.coefs)) || (decide (c.lits.length = 0) && decide (c.bound = 1)))) := by
  unfold pbV; rw [decide_eq_true h1, decide_eq_true h2]; rfl
theorem okF_small {bd : Int} {l : List (Int × Int)} (h : okF bd 0 l = true) (hb : bd ≤ 16777216) : 0 ≤ lastF 0 l ∧ lastF 0 l ≤ 65536 ∧ 0 ≤ sumP l ∧ sumP l ≤ 1099511627776 := by
  obtain ⟨h1, h2, h3, h4⟩ := okF_bound l 0 (Int.le_refl _) h
  by_cases e : l = []
  · subst e; simp [lastF, sumP]
  · have h5 := h4 e
    have h6 : (l.length : Int) ≤ 65536 := by omega
    have h7 : bd * (l.length : Int) ≤ 16777216 * 65536 := by
      refine Int.le_trans (Int.mul_le_mul_of_nonneg_right hb (by omega)) ?_
      exact Int.mul_le_mul_of_nonneg_left h6 (by omega)
    omega
theorem fit_mem {l : List Int} (h : Fits l) {x : Int} (hx : x ∈ l) : -9223372036854775808 ≤ x ∧ x ≤ 9223372036854775807 := by
  obtain ⟨j, hj, rfl⟩ := mem_ix_iff.1 hx
  exact h j
theorem pliteral_lit (l : Int) (b : Bool) (h : plitB l = b) (w : World) : Calls Tryz.prog 77 #[.int .i64 l] w fun e w' => e = .returned (.bool b) ∧ w = w' := h ▸ pliteral_any l w
theorem keepsO_below {W W' : World} (h : Below W.heap.size W W') : KeepsOthers W W' := ⟨h.size, fun k _ hk _ => (h.block k (Array.getElem?_eq_some_iff.1 hk).1).trans hk⟩
set_option maxHeartbeats 4000000 in
set_option maxRecDepth 100000 in
theorem pbValid_any (v : Value) (c : PBC) (w : World) (h : PBIs w v c) :
    Calls Tryz.prog 53 #[v] w fun e w' => e = .returned (.bool (pbV c)) ∧ Below w.heap.size w w' := by
  obtain ⟨vl, vk, rfl, hL, hK, hbd⟩ := h
  obtain ⟨a1, c1, rfl, -, hl1, -, -⟩ := hL.form
  obtain ⟨a2, c2, rfl, -, hl2, -, -⟩ := hK.form
  have HL := Lib.hid hL
  have HK := Lib.hid hK
  unfold InI at hbd
  clear hL hK
  by_cases h1 : c.lits.length = c.coefs.length
  · have HLN := Lib.hid h1
    rw [← h1] at HK hl2 ⊢
    clear h1
    by_cases h2 : c.bound < 0
    · have HF : Hid (pbV c = false) := Lib.hid (by unfold pbV; rw [decide_eq_false (show ¬ (0 ≤ c.bound ∧ c.bound ≤ 16777216) by omega)]; simp)
      go_enter Tryz.func53, Tryz.ntmps53
      go_wp2
      exact bodyPost_ret (v := .bool false) (by simp [results, Tryz.f53, go_sem]) rfl ⟨ret_bool HF.out.symm, by (repeat first | exact Below.refl _ _ | (refine Below.setCell ?_ (by first | omega | (simp; done) | (simp; omega)) _) | (refine bal ?_ _))⟩
    · by_cases h3 : 16777216 < c.bound
      · have HF : Hid (pbV c = false) := Lib.hid (by unfold pbV; rw [decide_eq_false (show ¬ (0 ≤ c.bound ∧ c.bound ≤ 16777216) by omega)]; simp)
        go_enter Tryz.func53, Tryz.ntmps53
        go_wp2
        exact bodyPost_ret (v := .bool false) (by simp [results, Tryz.f53, go_sem]) rfl ⟨ret_bool HF.out.symm, by (repeat first | exact Below.refl _ _ | (refine Below.setCell ?_ (by first | omega | (simp; done) | (simp; omega)) _) | (refine bal ?_ _))⟩
      · have HPV := Lib.hid (pbV_of HLN.out (show 0 ≤ c.bound ∧ c.bound ≤ 16777216 by omega))
        refine (callsIn_wide (n := 6)).1 ?_
        refine callsIn_of_wp_marks Tryz.func53 rfl trivial ?_ rfl
        simp only [Tryz.ntmps53, List.size_toArray, List.length_cons, List.length_nil, Nat.reduceAdd, Nat.reduceSub, Array.replicate_succ, Array.replicate_zero, List.push_toArray, List.append_toArray, List.nil_append, List.cons_append]
        gi_wp2_with (refine ⟨trivial, ?_⟩; gi_at_call 57; refine (callsIn_wide.2 (parts_any _ _ _ _ ⟨_, _, _, rfl⟩ ⟨_, _, _, rfl⟩)).mono ?_; rintro e w1 ⟨rfl, hb1, hp1⟩)
        have b0 := Blk.below (b := w.heap.size) (c := [.slice a1 c.lits.length c1, .slice a2 c.lits.length c2, .int .i64 c.bound]) (t := 46) (by repeat first | (refine Blk.newAt _ _ _ ?_; first | rfl | (simp only [World.size_alloc]; done) | (simp only [World.size_alloc]; omega)) | refine Blk.alloc ?_ _) hb1
        have b1 := Blk.below (b := w.heap.size + 1) (c := [.bool false]) (t := 4) (by repeat first | (refine Blk.newAt _ _ _ ?_; first | rfl | (simp only [World.size_alloc]; done) | (simp only [World.size_alloc]; omega)) | refine Blk.alloc ?_ _) hb1
        have b2 := Blk.below (b := w.heap.size + 1 + 1) (c := [.int .i64 0]) (t := 3) (by repeat first | (refine Blk.newAt _ _ _ ?_; first | rfl | (simp only [World.size_alloc]; done) | (simp only [World.size_alloc]; omega)) | refine Blk.alloc ?_ _) hb1
        have b3 := Blk.below (b := w.heap.size + 1 + 1 + 1) (c := [.int .i64 0]) (t := 3) (by repeat first | (refine Blk.newAt _ _ _ ?_; first | rfl | (simp only [World.size_alloc]; done) | (simp only [World.size_alloc]; omega)) | refine Blk.alloc ?_ _) hb1
        have hbw : Below w.heap.size w w1 := by
          refine Below.trans ?_ (hb1.mono (by simp; omega))
          (repeat first | exact Below.refl _ _ | (refine Below.setCell ?_ (by first | omega | (simp; done) | (simp; omega)) _) | (refine bal ?_ _))
        simp only [World.size_alloc] at hp1 hb1
        have hz := hp1.lt
        have hst : PartSt w w1 [w.heap.size + 1 + 1, w.heap.size + 1 + 1 + 1] (w.heap.size + 1 + 1 + 1 + 1) (.slice a1 c.lits.length c1) (.slice a2 c.lits.length c2) c.bound := ⟨fun i hi => hbw.block i hi, hbw.size, hp1⟩
        clear hb1 hp1
        refine parts_loop HL.out HK.out HLN.out hst (fun s hs => by simp only [List.mem_cons, List.not_mem_nil, or_false] at hs; omega) (by simp; omega) (by omega) rfl rfl
          (fun pre W => VSt c w.heap.size w (.slice a1 c.lits.length c1) (.slice a2 c.lits.length c2) pre W ∧ Up w w1 W)
          (fun e pre W => (Blk W (w.heap.size + 1) [.bool false] 4 ∧ (e = .ret ∧ okF c.bound 0 (pvs pre) = false)) ∧ Up w w1 W)
          (OwnFrom.and VSt.own (Up.own hbw.size))
          (fun e => OwnFrom.and (OwnFrom.and (Own.from (blk_ownP _ _ _) _) (ownFrom_pure _ _)) (Up.own hbw.size))
          ⟨⟨rfl, b0, b1, b2, b3⟩, hbw, Nat.le_refl _⟩
          ?a1 ?assign ?body ?done ?stop
        case assign =>
          intro l x W K hK
          gi_wp2
          exact hK
        case body =>
          rintro l pre x W ⟨hv, hB⟩ hlt
          have HV := Lib.hid hv
          have HB := Lib.hid hB
          obtain ⟨hok, k0, k1, k2, k3⟩ := hv
          obtain ⟨⟨x1, x2⟩, hx⟩ := x
          dsimp only
          have hx1 := fit_mem HL.out.2 (List.of_mem_zip hx).1
          have hx2 := fit_mem HK.out.2 (List.of_mem_zip hx).2
          have hsm := okF_small hok (by omega)
          have HX : Hid (okF c.bound 0 (pvs (pre ++ [⟨(x1, x2), hx⟩])) = chkB c.bound (lastF 0 (pvs pre)) (x1, x2)) := Lib.hid (by rw [pvs_snoc, okF_snoc, hok, Bool.true_and])
          have HS1 : Hid (lastF 0 (pvs (pre ++ [⟨(x1, x2), hx⟩])) = (x1.natAbs : Int)) := Lib.hid (by rw [pvs_snoc, lastF_snoc])
          have HS2 : Hid (sumP (pvs (pre ++ [⟨(x1, x2), hx⟩])) = sumP (pvs pre) + x2) := Lib.hid (by rw [pvs_snoc, sumP_snoc])
          have HQ0 := Lib.hid k0
          have HQ1 := Lib.hid k1
          have HQ2 := Lib.hid k2
          have HQ3 := Lib.hid k3
          have ex0 := fun (e : Ext W) (o : Nat) => (bcell e.below _ o k0.lt).trans (k0.cell o)
          have ex2 := fun (e : Ext W) => (bcell e.below _ 0 k2.lt).trans (k2.cell 0)
          clear hok k0 k1 k2 k3 hB hst b0 b1 b2 b3
          generalize lastF 0 (pvs pre) = L9 at *
          generalize sumP (pvs pre) = S9 at *
          have HCK : Hid (chkB c.bound L9 (x1, x2) = (plitB x1 && decide (L9 < (x1.natAbs : Int)) && decide (1 ≤ x2) && decide (x2 ≤ c.bound))) := Lib.hid rfl
          cases hlb : plitB x1 with
          | false =>
            have HLB := Lib.hid hlb
            have HCF : Hid (chkB c.bound L9 (x1, x2) = false) := Lib.hid (by rw [HCK.out, hlb]; rfl)
            clear hlb
            gi_wp2
            refine wp_region_extR (by kernel_rfl) (by kernel_rfl) (by kernel_rfl) ?_
            repeat (go_big_quiet_step ((first | (go_at_call 77; exact Calls.ext_of_same (pliteral_lit _ _ HLB.out _)) | (go_at_call 65; exact Calls.ext_of_same (abs_any _ HAB.out _)))))
            refine wpQuiet_nil ?_
            intro w9 hw'
            obtain ⟨e9, he9⟩ := hw'
            have hb9 := e9.below
            rw [← he9] at hb9
            clear he9 e9
            try dsimp only
            have HB9 := Lib.hid hb9
            have u1 := (HQ1.out.below hb9).cell 0
            have v1 := (HQ1.out.below hb9).free 0
            clear hb9
            gi_wp2
            exact ⟨(keepsO_below HB9.out).trans (KeepsOthers.setCell _ _ _), ⟨(HQ1.out.below HB9.out).set 0 _, rfl, by rw [HX.out, HCF.out]⟩, (HB.out.on HB9.out).set _ _ _ (by omega)⟩
          | true =>
            have HLB := Lib.hid hlb
            have hab : -65536 ≤ x1 ∧ x1 ≤ 65536 := by unfold plitB at hlb; rw [decide_eq_true_eq] at hlb; exact hlb.2
            have HAB : Hid (-4611686018427387904 ≤ x1 ∧ x1 ≤ 4611686018427387904) := Lib.hid (by omega)
            rw [hlb, Bool.true_and] at HCK
            clear hlb
            by_cases g1 : (x1.natAbs : Int) ≤ L9
            · have HCF : Hid (chkB c.bound L9 (x1, x2) = false) := Lib.hid (by rw [HCK.out, decide_eq_false (by omega)]; rfl)
              have d1 : decide ((x1.natAbs : Int) ≤ L9) = true := decide_eq_true g1
              gi_wp2
              refine wp_region_extR (by kernel_rfl) (by kernel_rfl) (by kernel_rfl) ?_
              repeat (go_big_quiet_step ((first | (go_at_call 77; exact Calls.ext_of_same (pliteral_lit _ _ HLB.out _)) | (go_at_call 65; exact Calls.ext_of_same (abs_any _ HAB.out _)))))
              refine wpQuiet_nil ?_
              intro w9 hw'
              obtain ⟨e9, he9⟩ := hw'
              have hb9 := e9.below
              rw [← he9] at hb9
              clear he9 e9
              try dsimp only
              have HB9 := Lib.hid hb9
              have u1 := (HQ1.out.below hb9).cell 0
              have v1 := (HQ1.out.below hb9).free 0
              clear hb9
              gi_wp2
              exact ⟨(keepsO_below HB9.out).trans (KeepsOthers.setCell _ _ _), ⟨(HQ1.out.below HB9.out).set 0 _, rfl, by rw [HX.out, HCF.out]⟩, (HB.out.on HB9.out).set _ _ _ (by omega)⟩
            · have d1 : decide ((x1.natAbs : Int) ≤ L9) = false := decide_eq_false g1
              by_cases g2 : x2 < 1
              · have HCF : Hid (chkB c.bound L9 (x1, x2) = false) := Lib.hid (by rw [HCK.out, decide_eq_false (show ¬ 1 ≤ x2 by omega)]; simp)
                have d2 : decide (x2 < 1) = true := decide_eq_true g2
                gi_wp2
                refine wp_region_extR (by kernel_rfl) (by kernel_rfl) (by kernel_rfl) ?_
                repeat (go_big_quiet_step ((first | (go_at_call 77; exact Calls.ext_of_same (pliteral_lit _ _ HLB.out _)) | (go_at_call 65; exact Calls.ext_of_same (abs_any _ HAB.out _)))))
                refine wpQuiet_nil ?_
                intro w9 hw'
                obtain ⟨e9, he9⟩ := hw'
                have hb9 := e9.below
                rw [← he9] at hb9
                clear he9 e9
                try dsimp only
                have HB9 := Lib.hid hb9
                have u1 := (HQ1.out.below hb9).cell 0
                have v1 := (HQ1.out.below hb9).free 0
                clear hb9
                gi_wp2
                exact ⟨(keepsO_below HB9.out).trans (KeepsOthers.setCell _ _ _), ⟨(HQ1.out.below HB9.out).set 0 _, rfl, by rw [HX.out, HCF.out]⟩, (HB.out.on HB9.out).set _ _ _ (by omega)⟩
              · have d2 : decide (x2 < 1) = false := decide_eq_false g2
                by_cases g3 : c.bound < x2
                · have HCF : Hid (chkB c.bound L9 (x1, x2) = false) := Lib.hid (by rw [HCK.out, decide_eq_false (show ¬ x2 ≤ c.bound by omega)]; simp)
                  have d3 : decide (c.bound < x2) = true := decide_eq_true g3
                  gi_wp2
                  refine wp_region_extR (by kernel_rfl) (by kernel_rfl) (by kernel_rfl) ?_
                  repeat (go_big_quiet_step ((first | (go_at_call 77; exact Calls.ext_of_same (pliteral_lit _ _ HLB.out _)) | (go_at_call 65; exact Calls.ext_of_same (abs_any _ HAB.out _)))))
                  refine wpQuiet_nil ?_
                  intro w9 hw'
                  obtain ⟨e9, he9⟩ := hw'
                  have hb9 := e9.below
                  rw [← he9] at hb9
                  clear he9 e9
                  try dsimp only
                  have HB9 := Lib.hid hb9
                  have u1 := (HQ1.out.below hb9).cell 0
                  have v1 := (HQ1.out.below hb9).free 0
                  clear hb9
                  gi_wp2
                  exact ⟨(keepsO_below HB9.out).trans (KeepsOthers.setCell _ _ _), ⟨(HQ1.out.below HB9.out).set 0 _, rfl, by rw [HX.out, HCF.out]⟩, (HB.out.on HB9.out).set _ _ _ (by omega)⟩
                · have d3 : decide (c.bound < x2) = false := decide_eq_false g3
                  have HCT : Hid (chkB c.bound L9 (x1, x2) = true) := Lib.hid (by rw [HCK.out, decide_eq_true (show L9 < (x1.natAbs : Int) by omega), decide_eq_true (show 1 ≤ x2 by omega), decide_eq_true (show x2 ≤ c.bound by omega)]; rfl)
                  gi_wp2
                  refine wp_region_extR (by kernel_rfl) (by kernel_rfl) (by kernel_rfl) ?_
                  repeat (go_big_quiet_step ((first | (go_at_call 77; exact Calls.ext_of_same (pliteral_lit _ _ HLB.out _)) | (go_at_call 65; exact Calls.ext_of_same (abs_any _ HAB.out _)))))
                  refine wpQuiet_nil ?_
                  intro w9 hw'
                  obtain ⟨e9, he9⟩ := hw'
                  have hb9 := e9.below
                  rw [← he9] at hb9
                  clear he9 e9
                  try dsimp only
                  have HB9 := Lib.hid hb9
                  have u2 := (HQ2.out.below hb9).cell 0
                  have u3 := (HQ3.out.below hb9).cell 0
                  have v2 := (HQ2.out.below hb9).free 0
                  have v3 := (HQ3.out.below hb9).free 0
                  have hs9 := hb9.size
                  have hsW := HB.out.below.size
                  have hsV := HB.out.size
                  clear hb9
                  gi_wp2_with (refine ⟨trivial, ?_⟩; gi_at_call 65; refine (CallsIn.inRound l (callsIn_wide.2 (abs_any _ HAB.out _))).mono ?_; rintro e w2 ⟨rfl, rfl⟩)
                  have hB9 := HB9.out
                  refine ⟨((keepsO_below hB9).trans (KeepsOthers.setCell _ _ _)).trans (KeepsOthers.setCell _ _ _), ((Lim.of_below hB9 (by omega)).trans (Lim.setCell _ (.inl (by simp)))).trans (Lim.setCell _ (.inl (by simp))), ⟨by rw [HX.out, HCT.out], ?_, ?_, ?_, ?_⟩, ?_⟩
                  · exact ((HQ0.out.below hB9).setOther _ _ (by omega)).setOther _ _ (by omega)
                  · exact ((HQ1.out.below hB9).setOther _ _ (by omega)).setOther _ _ (by omega)
                  · rw [HS1.out]
                    exact ((HQ2.out.below hB9).set 0 _).setOther _ _ (by omega)
                  · rw [HS2.out]
                    exact ((HQ3.out.below hB9).setOther _ _ (by omega)).set 0 _
                  · exact ((HB.out.on hB9).set _ _ _ (by omega)).set _ _ _ (by omega)
        case done =>
          rintro D xs W hD hS ⟨⟨hok, k0, k1, k2, k3⟩, hB⟩ hK
          have q0 := k0.cell
          have q1 := k1.cell 0
          have v1 := k1.free 0
          have q3 := k3.cell 0
          have HB := Lib.hid hB
          have HK1 := Lib.hid k1
          have hsm := okF_small hok (by omega)
          have HOK := Lib.hid hok
          have HS := Lib.hid hS
          have hfin : Hid (∀ b : Bool, (decide (c.bound ≤ sumP (pvs xs)) || (decide (c.lits.length = 0) && decide (c.bound = 1))) = b → pbV c = b) := Lib.hid (fun b h => by rw [HPV.out, ← HS.out, HOK.out, Bool.true_and]; exact h)
          have HD := Lib.hid hK
          have hDs := hbw.size
          clear hS hok k0 k1 k2 k3 hB hst b0 b1 b2 b3 hK
          generalize hS9 : sumP (pvs xs) = S9 at *
          clear hS9
          by_cases g1 : c.bound ≤ S9
          · have HF : Hid (pbV c = true) := Lib.hid (hfin.out true (by rw [decide_eq_true g1]; rfl))
            clear hfin
            gi_wp2
            have hK' := (KeepsOthers.setCell W ⟨w.heap.size + 1, 0, none⟩ (.bool true)).same D _ HD.out rfl
            refine ⟨by simp, .inl ⟨_, _, rfl, run_takeDeferred hK', ?_⟩⟩
            have hc5 := cell_kept (World.cell?_setCell_same' W ⟨w.heap.size + 1, 0, none⟩ (.bool true) (by rw [q1]; rfl)) (grownBy_putObj' _ D (.deferred none)) (fun r e => by cases e; exact ⟨_, hK', rfl⟩)
            refine ⟨.bool true, ?_, by rw [HF.out], (HB.out.below.setCell (p := ⟨w.heap.size + 1, 0, none⟩) (by simp) _).trans (belowK_b (w := w) (Nat.le_refl _) _ D _ _ (by omega) hK' rfl rfl)⟩
            simp [results, Tryz.f53, go_sem, hc5]
          · by_cases g2 : c.lits.length = 0
            · by_cases g3 : c.bound = 1
              · have HF : Hid (pbV c = true) := Lib.hid (hfin.out true (by rw [decide_eq_true g2, decide_eq_true g3]; simp))
                have d2 : ((c.lits.length : Int) == 0) = true := beq_iff_eq.2 (by omega)
                have d3 : (c.bound == 1) = true := by simp [g3]
                clear hfin g2 g3
                gi_wp2
                have hK' := (KeepsOthers.setCell W ⟨w.heap.size + 1, 0, none⟩ (.bool true)).same D _ HD.out rfl
                refine ⟨by simp, .inl ⟨_, _, rfl, run_takeDeferred hK', ?_⟩⟩
                have hc5 := cell_kept (World.cell?_setCell_same' W ⟨w.heap.size + 1, 0, none⟩ (.bool true) (by rw [q1]; rfl)) (grownBy_putObj' _ D (.deferred none)) (fun r e => by cases e; exact ⟨_, hK', rfl⟩)
                refine ⟨.bool true, ?_, by rw [HF.out], (HB.out.below.setCell (p := ⟨w.heap.size + 1, 0, none⟩) (by simp) _).trans (belowK_b (w := w) (Nat.le_refl _) _ D _ _ (by omega) hK' rfl rfl)⟩
                simp [results, Tryz.f53, go_sem, hc5]
              · have HF : Hid (pbV c = false) := Lib.hid (hfin.out false (by rw [decide_eq_false g1, decide_eq_false g3]; simp))
                have d2 : ((c.lits.length : Int) == 0) = true := beq_iff_eq.2 (by omega)
                have d3 : (c.bound == 1) = false := by simp [g3]
                clear hfin g2 g3
                gi_wp2
                have hK' := (KeepsOthers.setCell W ⟨w.heap.size + 1, 0, none⟩ (.bool false)).same D _ HD.out rfl
                refine ⟨by simp, .inl ⟨_, _, rfl, run_takeDeferred hK', ?_⟩⟩
                have hc5 := cell_kept (World.cell?_setCell_same' W ⟨w.heap.size + 1, 0, none⟩ (.bool false) (by rw [q1]; rfl)) (grownBy_putObj' _ D (.deferred none)) (fun r e => by cases e; exact ⟨_, hK', rfl⟩)
                refine ⟨.bool false, ?_, by rw [HF.out], (HB.out.below.setCell (p := ⟨w.heap.size + 1, 0, none⟩) (by simp) _).trans (belowK_b (w := w) (Nat.le_refl _) _ D _ _ (by omega) hK' rfl rfl)⟩
                simp [results, Tryz.f53, go_sem, hc5]
            · have HF : Hid (pbV c = false) := Lib.hid (hfin.out false (by rw [decide_eq_false g1, decide_eq_false g2]; simp))
              have d2 : ((c.lits.length : Int) == 0) = false := beq_eq_false_iff_ne.2 (by omega)
              clear hfin g2
              gi_wp2
              have hK' := (KeepsOthers.setCell W ⟨w.heap.size + 1, 0, none⟩ (.bool false)).same D _ HD.out rfl
              refine ⟨by simp, .inl ⟨_, _, rfl, run_takeDeferred hK', ?_⟩⟩
              have hc5 := cell_kept (World.cell?_setCell_same' W ⟨w.heap.size + 1, 0, none⟩ (.bool false) (by rw [q1]; rfl)) (grownBy_putObj' _ D (.deferred none)) (fun r e => by cases e; exact ⟨_, hK', rfl⟩)
              refine ⟨.bool false, ?_, by rw [HF.out], (HB.out.below.setCell (p := ⟨w.heap.size + 1, 0, none⟩) (by simp) _).trans (belowK_b (w := w) (Nat.le_refl _) _ D _ _ (by omega) hK' rfl rfl)⟩
              simp [results, Tryz.f53, go_sem, hc5]
        case stop =>
          rintro D e pre W hD ⟨k, hk, hS⟩ ⟨⟨bRW, rfl, hok⟩, hB⟩ hK
          have HF : Hid (pbV c = false) := Lib.hid (by
            rw [HPV.out, ← List.take_append_drop k (c.lits.zip c.coefs), ← hS, okF_false _ _ _ hok]; rfl)
          gi_wp2
          refine ⟨by simp, .inl ⟨_, _, rfl, run_takeDeferred hK, ?_⟩⟩
          have hc5 := cell_kept (bRW.cell 0) (grownBy_putObj' _ D (.deferred none)) (fun r e => by cases e; exact ⟨_, hK, rfl⟩)
          have hDs := hbw.size
          refine ⟨.bool false, ?_, by rw [HF.out], hB.below.trans (belowK_b (w := w) (Nat.le_refl _) W D _ _ (by omega) hK rfl rfl)⟩
          simp [results, Tryz.f53, go_sem, hc5]
  · have HF : Hid (pbV c = false) := Lib.hid (by unfold pbV; rw [decide_eq_false h1]; rfl)
    have h1' : ((c.lits.length : Int) != c.coefs.length) = true := by simp; omega
    clear h1
    go_enter Tryz.func53, Tryz.ntmps53
    go_wp2
    exact bodyPost_ret (v := .bool false) (by simp [results, Tryz.f53, go_sem]) rfl ⟨ret_bool HF.out.symm, by (repeat first | exact Below.refl _ _ | (refine Below.setCell ?_ (by first | omega | (simp; done) | (simp; omega)) _) | (refine bal ?_ _))⟩
end Go.Proofs.YtjodocheiejkeaaGreatDoor
namespace Go.Proofs.YtjodocheiejkeaaGreatDoor
open Go.RowKit Go.Shelf
attribute [local go_sem] Oper.semAt_some
def itemT (q : Int × Int) : List UInt8 := (Lib.decDigits q.2.toNat ++ [32]) ++ ((if q.1 < 0 then [126] else []) ++ (([120] ++ Lib.decDigits q.1.natAbs) ++ [32]))
def headT (l : List (Int × Int)) : List UInt8 := l.flatMap itemT
def strT (c : PBC) : List UInt8 := headT (c.lits.zip c.coefs) ++ ([62, 61, 32] ++ Lib.decDigits c.bound.toNat)
theorem headT_snoc (l : List (Int × Int)) (q : Int × Int) : headT (l ++ [q]) = headT l ++ itemT q := by simp [headT]
theorem dec_len {n : Nat} (h : n < 100) : (Lib.decDigits n).length ≤ 2 := by
  unfold Lib.decDigits
  split
  · simp
  · have : n / 10 < 10 := by omega
    unfold Lib.decDigits
    rw [dif_pos this]
    simp
theorem itemT_len {q : Int × Int} (h1 : q.1.natAbs < 100) (h2 : 0 ≤ q.2 ∧ q.2 < 100) : (itemT q).length ≤ 8 := by
  have a := dec_len (n := q.2.toNat) (by omega)
  have b := dec_len h1
  unfold itemT
  simp only [List.length_append, List.length_cons, List.length_nil]
  split <;> simp <;> omega
theorem headT_len : ∀ {l : List (Int × Int)}, (∀ q ∈ l, q.1.natAbs < 100 ∧ 0 ≤ q.2 ∧ q.2 < 100) → (headT l).length ≤ 8 * l.length
  | [], _ => by simp [headT]
  | q :: l, h => by
    have a := itemT_len (h q (.head _)).1 (h q (.head _)).2
    have b := headT_len (l := l) (fun x hx => h x (.tail _ hx))
    unfold headT at *
    simp only [List.flatMap_cons, List.length_append, List.length_cons]
    omega
abbrev bc (l : List UInt8) : List Value := Lib.byteCells l
theorem bc_app (a b : List UInt8) : bc (a ++ b) = bc a ++ bc b := by simp [bc, Lib.byteCells]
theorem bc_str (s : ByteArray) : Lib.strCells s = bc s.data.toList := rfl
theorem parts_any2 (vl vk : Value) (bd : Int) (w : World) (hl : ∃ a n c, vl = .slice a n c) (hk : ∃ a n c, vk = .slice a n c) :
    Calls Tryz.prog 57 #[.agg #[vl, vk, .int .i64 bd]] w fun e w' => e = .returned (.func (.func 90) #[] #[.pointer (some ⟨w.heap.size, 0, none⟩)]) ∧ Below w.heap.size w w' ∧ Blk w' w.heap.size [vl, vk, .int .i64 bd] 46 ∧ w'.heap.size = w.heap.size + 1 := by
  obtain ⟨a1, n1, c1, rfl⟩ := hl
  obtain ⟨a2, n2, c2, rfl⟩ := hk
  have HB : Hid (Below w.heap.size w (w.alloc (.cells #[.slice a1 n1 c1, .slice a2 n2 c2, .int .i64 bd] 46))) := Lib.hid (bal (Below.refl _ _) _)
  have HK := Lib.hid (Blk.new w [.slice a1 n1 c1, .slice a2 n2 c2, .int .i64 bd] 46)
  go_enter Tryz.func57, Tryz.ntmps57
  go_wp2
  go_ret
  exact ⟨rfl, HB.out, HK.out, by simp⟩
structure StSt (b0 b cb n1 : Nat) (pc : List Value) (w : World) (t : List UInt8) (W : World) : Prop where
  bld : IsB b b (bc t) W
  box : Blk W cb pc 46
  box1 : Blk W b0 pc 46
  below : Below b w W
  size : n1 ≤ W.heap.size
theorem IsB.own {b : Nat} {bs : List Value} {X Y : World} {row : Option Nat} (h : IsB b b bs X) (hg : X.grownBy Y row) (hr : ∀ r, row = some r → ∃ o : Obj, X.heap[r]? = some o ∧ o.isCells = false) : IsB b b bs Y := by
  have key : ∀ p, BAt b b p bs X → BAt b b p bs Y := fun p ⟨h1, v, h2, h3, h4⟩ => by
    have hne : ∀ k (o : Obj), X.heap[k]? = some o → o.isCells = true → row ≠ some k := fun k o hk hc e => by
      obtain ⟨o2, ho, hc2⟩ := hr k e
      rw [hk] at ho
      cases ho
      rw [hc] at hc2
      cases hc2
    refine ⟨h1, v, (hg.block b (Array.getElem?_eq_some_iff.1 h2).1 (fun e => hne b _ h2 rfl e.symm)).trans h2, h3.kept hg ?_, h4⟩
    rcases h3.2 with ⟨rfl, _⟩ | ⟨g, cap, cur, fz, rfl, _, hgg, _⟩
    · exact .inl rfl
    · exact .inr (fun e => hne g _ hgg rfl e.symm)
  exact h.elim (fun x => .inl (key _ x)) (fun x => .inr (key _ x))
theorem StSt.own {b0 b cb n1 B : Nat} {pc : List Value} {w : World} (hB : b ≤ B) {c : PBC} : OwnFrom B (fun (pre : List (PV c)) W => StSt b0 b cb n1 pc w (headT (pvs pre)) W) := fun pre X Y row hs hg hrow => by
  have hr : ∀ r, row = some r → ∃ o : Obj, X.heap[r]? = some o ∧ o.isCells = false := fun r e => (hrow r e).2
  refine ⟨hs.bld.own hg hr, blk_ownP _ _ _ () X Y row hs.box hg hr, blk_ownP _ _ _ () X Y row hs.box1 hg hr, ?_, Nat.le_trans hs.size hg.size⟩
  exact hs.below.trans ⟨hg.os, hg.tape, hg.output, hg.size, fun i hi => hg.block i (by have := hs.bld; rcases this with h | h <;> (have := h.lt; omega)) (fun e => by have := (hrow i e.symm).1; omega)⟩
theorem StSt.write {b0 b cb : Nat} {pc : List Value} {w W W' : World} {t s : List UInt8} (h : StSt b0 b cb (b + 2) pc w t W) (hcb : cb = b + 1) (hb : b0 < b) (h1 : BAt b b (.pointer (some ⟨b, 0, none⟩)) (bc t ++ bc s) W') (h2 : Below b W W') (h3 : Lib.OthersKept 5 (some b) W W') :
    StSt b0 b cb (b + 2) pc w (t ++ s) W' ∧ Lim (b + 2) [b] W W' ∧ KeepsOthers W W' := by
  have kk : ∀ k c t', Blk W k c t' → k ≠ b → t' ≠ 5 → Blk W' k c t' := fun k c t' hk hne ht => h3 k _ hk (fun e => hne (Option.some.inj e)) (fun c fz e => ht (by cases e; rfl))
  refine ⟨⟨.inr (by rw [bc_app]; exact h1), kk _ _ _ h.box (by omega) (by decide), kk _ _ _ h.box1 (by omega) (by decide), h.below.trans h2, Nat.le_trans h.size h2.size⟩, ⟨h2.os, h2.tape, h2.output, h2.size, fun k hk hs => ?_⟩, ⟨h2.size, fun k o hk hc => h3 k o hk ?_ (fun c fz e => by subst e; cases hc)⟩⟩
  · simp only [List.mem_cons, List.not_mem_nil, or_false] at hs
    rcases Nat.lt_or_ge k b with hlt | hge
    · exact h2.block k hlt
    · obtain rfl : k = cb := by omega
      rw [show W'.heap[k]? = _ from kk _ _ _ h.box hs (by decide), show W.heap[k]? = _ from h.box]
  · intro e
    have := Option.some.inj e
    subst this
    rcases h.bld with ⟨_, v, hb2, _⟩ | ⟨_, v, hb2, _⟩ <;> (rw [hb2] at hk; cases hk; cases hc)
theorem cat_list (a b : List UInt8) : ((⟨a.toArray⟩ : ByteArray) ++ ⟨b.toArray⟩).data.toList = a ++ b := by
  rw [ByteArray.data_append]
  simp
theorem cat3_list (a b c : List UInt8) : (((⟨a.toArray⟩ : ByteArray) ++ ⟨b.toArray⟩) ++ ⟨c.toArray⟩).data.toList = (a ++ b) ++ c := by
  rw [ByteArray.data_append, ByteArray.data_append]
  simp
theorem ws_txt {b0 b cb : Nat} {pc : List Value} {w W : World} {t : List UInt8} (h : StSt b0 b cb (b + 2) pc w t W) (hcb : cb = b + 1) (hb : b0 < b) (s : List UInt8) (S : ByteArray) (hS : S.data.toList = s) (hlen : t.length + s.length ≤ 1000000) :
    Calls Tryz.prog 63 #[.pointer (some ⟨b, 0, none⟩), .string S] W fun e W' => e = .returned (.tuple #[.int .i64 S.size, .nilIface]) ∧ StSt b0 b cb (b + 2) pc w (t ++ s) W' ∧ Lim (b + 2) [b] W W' ∧ KeepsOthers W W' := by
  have hsz : S.size = s.length := by rw [← hS, Array.length_toList]; rfl
  refine (ws_any b b (bc t) S W h.bld (by rw [Lib.byteCells_length, hsz]; omega) (by have := h.size; omega)).mono ?_
  rintro e W' ⟨rfl, h1, h2, h3⟩
  rw [bc_str, hS] at h1
  exact ⟨rfl, h.write hcb hb h1 h2 h3⟩
end Go.Proofs.YtjodocheiejkeaaGreatDoor
namespace Go.Proofs.YtjodocheiejkeaaGreatDoor
open Go.RowKit
def twoP : GP := ⟨2, [⟨#[97]⟩, ⟨#[98]⟩], [], [⟨false, [1], false, 0, [-2], []⟩, ⟨false, [2], false, 0, [-1], []⟩], []⟩
def ct1 : PBC := ⟨[1, 2, -4], [1, 2, 2], 2⟩
def ct2 : PBC := ⟨[-1, -2, 4], [1, 2, 2], 2⟩
def ct3 : PBC := ⟨[3, -4], [1, 1], 1⟩
theorem d1 : Lib.decDigits 1 = [49] := by unfold Lib.decDigits; rfl
theorem d2 : Lib.decDigits 2 = [50] := by unfold Lib.decDigits; rfl
theorem d3 : Lib.decDigits 3 = [51] := by unfold Lib.decDigits; rfl
end Go.Proofs.YtjodocheiejkeaaGreatDoor
namespace Go.Proofs.YtjodocheiejkeaaGreatDoor
open Go.RowKit Go.MapKept
open Go.ChangeMaps (setBlock)
def RangeIs {κ : Type} (kv : κ → Value) (w : World) (b r : Nat) (g : κ → Option Value) (left : κ → Bool) (cnt : Nat) : Prop :=
  ∃ es clock since seen c0, w.heap[b]? = some (.map es clock) ∧ Stamped es clock ∧ (∀ x ∈ es.toList, ∃ k, x.key = kv k) ∧ (∀ k v, g k = some v ↔ ∃ x ∈ es.toList, x.key = kv k ∧ x.val = v) ∧
    w.heap[r]? = some (.mapIter (some b) since seen c0) ∧ (∀ x ∈ es.toList, x.born < since) ∧ (leftOf es seen).size = cnt ∧
    (∀ x ∈ es.toList, ∀ k, x.key = kv k → left k = !seen.contains x.born) ∧ (∀ k, left k = true → ∃ v, g k = some v) ∧ since ≤ c0 ∧ since ≤ clock
section
variable {κ : Type} {kv : κ → Value} {P : Program} {w : World} {b r cnt : Nat} {g : κ → Option Value} {left : κ → Bool} {t kt et : TypeId}
theorem RangeIs.map (h : RangeIs kv w b r g left cnt) : MapIs kv w b g := by
  obtain ⟨es, clock, since, seen, c0, hb, hs, hk, hg, _⟩ := h
  exact ⟨es, clock, hb, hs, hk, hg⟩
theorem RangeIs.lt (h : RangeIs kv w b r g left cnt) : r < w.heap.size := by
  obtain ⟨es, clock, since, seen, c0, _, _, _, _, hr, _⟩ := h
  exact (Array.getElem?_eq_some_iff.1 hr).1
theorem RangeIs.same {w' : World} (h : RangeIs kv w b r g left cnt) (hb : w'.heap[b]? = w.heap[b]?) (hr : w'.heap[r]? = w.heap[r]?) : RangeIs kv w' b r g left cnt := by
  obtain ⟨es, clock, since, seen, c0, h1, h2, h3, h4, h5, rest⟩ := h
  exact ⟨es, clock, since, seen, c0, hb.trans h1, h2, h3, h4, hr.trans h5, rest⟩
theorem RangeIs.grown {w' : World} {row : Option Nat} (h : RangeIs kv w b r g left cnt) (hg : w.grownBy w' row) (hb : some b ≠ row) (hr : some r ≠ row) : RangeIs kv w' b r g left cnt :=
  h.same (hg.block b h.map.lt hb) (hg.block r h.lt hr)
theorem RangeIs.alloc (h : RangeIs kv w b r g left cnt) (o : Obj) : RangeIs kv (w.alloc o) b r g left cnt := h.same (Below.heap_alloc _ _ _ h.map.lt) (Below.heap_alloc _ _ _ h.lt)
theorem RangeIs.left_eq (h : RangeIs kv w b r g left cnt) : w.rangeLeft b r = cnt := by
  obtain ⟨es, clock, since, seen, c0, hb, _, _, _, hr, _, hc, _⟩ := h
  simp only [World.rangeLeft, hb, hr]
  exact hc
theorem MapIs.range (h : MapIs kv w b g) (ht : P.underlying t = some (.map kt et)) :
    ∃ w' cnt, (Instr.range t (.map (some b))).run P w = .ok (.pointer (some ⟨w.heap.size, 0, none⟩)) w' ∧ RangeIs kv w' b w.heap.size g (fun k => (g k).isSome) cnt ∧ w.grownBy w' none ∧ w'.heap.size = w.heap.size + 1 := by
  have hlt := h.lt
  obtain ⟨es, clock, hb, hs, hk, hg⟩ := h
  have hst := (stamped_iff es clock).1 hs
  refine ⟨_, _, run_range_map w t kt et b es clock ht hb, ⟨es, clock, clock, #[], clock, ((MapKept.heap_alloc w _).2 b hlt).trans hb, hs, hk, hg, (MapKept.heap_alloc w _).1, hst.1, rfl, ?_, ?_, Nat.le_refl _, Nat.le_refl _⟩, World.grownBy_alloc w _ none, by simp⟩
  · intro x hx k e
    have : g k = some x.val := (hg k _).2 ⟨x, hx, e, rfl⟩
    simp [this]
  · intro k hk'
    exact Option.isSome_iff_exists.1 hk'
theorem RangeIs.next [DecidableEq κ] (h : RangeIs kv w b r g left cnt) (hinj : ∀ a c, kv a = kv c → a = c) (ty : TypeId) :
    (cnt = 0 ∧ (∀ k, left k = false) ∧ (Instr.next (.pointer (some ⟨r, 0, none⟩)) false ty).run P w = .ok (.tuple #[.bool false]) w) ∨
    ∃ k v w' cnt', left k = true ∧ g k = some v ∧ (Instr.next (.pointer (some ⟨r, 0, none⟩)) false ty).run P w = .ok (.tuple #[.bool true, kv k, v]) w' ∧
      RangeIs kv w' b r g (fun x => left x && !decide (x = k)) cnt' ∧ cnt' < cnt ∧ w.grownBy w' (some r) ∧ w'.heap.size = w.heap.size ∧ (Instr.entry (.pointer (some ⟨r, 0, none⟩))).run P w' = .ok (.tuple #[kv k, v]) w' := by
  obtain ⟨es, clock, since, seen, c0, hb, hs, hks, hg, hr, hold, rfl, hl1, hl2, hsc, hsk⟩ := h
  have hne : r ≠ b := by rintro rfl; rw [hb] at hr; cases hr
  have hst := (stamped_iff es clock).1 hs
  rcases run_next_at (P := P) w ty r b since c0 seen es clock hr hb hold hsc with ⟨h0, hrun⟩ | ⟨e, he, w1, hal, hrun⟩
  · refine Or.inl ⟨h0, fun k => ?_, hrun⟩
    cases hk : left k
    · rfl
    · obtain ⟨v, hv⟩ := hl2 k hk
      obtain ⟨x, hx, e, -⟩ := (hg k v).1 hv
      rw [hl1 x hx k e, all_seen es seen h0 x hx] at hk
      cases hk
  · obtain ⟨hem, hes⟩ := mem_left he
    obtain ⟨k, hk⟩ := hks e hem
    have hr1 : w1.heap[r]? = some (.mapIter (some b) since seen c0) := by rcases hal with rfl | rfl <;> exact hr
    have hb1 : w1.heap[b]? = some (.map es clock) := by rcases hal with rfl | rfl <;> exact hb
    have hset := heap_set (o' := .mapIter (some b) since (seen.push e.born) clock) hr1
    have hb' : (setBlock w1 r (.mapIter (some b) since (seen.push e.born) clock)).heap[b]? = some (.map es clock) := (hset.2 b (fun e1 => hne e1.symm)).trans hb1
    rw [hk] at hrun
    refine Or.inr ⟨k, e.val, _, _, by rw [hl1 e hem k hk, hes]; rfl, (hg k _).2 ⟨e, hem, hk, rfl⟩, hrun,
      ⟨es, clock, since, seen.push e.born, clock, hb', hs, hks, hg, hset.1, hold, rfl, fun x hx k' hk' => ?_, fun k' h' => hl2 k' (by simp at h'; exact h'.1), hsk, hsk⟩, left_shrinks es seen e he, ?_, ?_, ?_⟩
    · show (left k' && !decide (k' = k)) = _
      rw [hl1 x hx k' hk', contains_push]
      by_cases hxe : x.born = e.born
      · obtain rfl := born_inj hst.2.1 hx hem hxe
        have : k' = k := hinj _ _ (hk'.symm.trans hk)
        subst this
        simp
      · have : k' ≠ k := fun e2 => by
          subst e2
          have e3 := entry_eq_of_key hst.2.2 hx hem (hk'.trans hk.symm)
          exact hxe (by rw [e3])
        simp [this, hxe]
    · rcases hal with rfl | rfl <;> exact ⟨rfl, rfl, rfl, by simp [setBlock], fun i _ hi => hset.2 i (fun e1 => hi (by rw [e1]))⟩
    · rcases hal with rfl | rfl <;> simp [setBlock]
    · have := run_entry_at (P := P) _ r b since seen es clock e hset.1 hb' hem hst.2.1
      rw [hk] at this
      exact this
end
section
variable {κ : Type} {kv : κ → Value} {P : Program} {w : World} {ops : Array Oper} {rest : List Oper} {o : Oper} {a : Act} {Q : Exit → Act → World → Prop}
theorem wpList_mrange (g : κ → Option Value) (b : Nat) (t kt et : TypeId) (ht : P.underlying t = some (.map kt et))
    (hg : o.guard = none) (m : Operand) (hop : o.op = Op.range t m) (hm : a.eval m = .map (some b)) (h : MapIs kv w b g)
    (hK : ∀ w' cnt, RangeIs kv w' b w.heap.size g (fun k => (g k).isSome) cnt → w.grownBy w' none → w'.heap.size = w.heap.size + 1 → wpList P ops Q rest (a.put o.dst (.pointer (some ⟨w.heap.size, 0, none⟩))) w') : wpList P ops Q (o :: rest) a w := by
  refine wpList_plain hg fun K' hK' => ?_
  obtain ⟨w', cnt, hrun, r1, r2, r3⟩ := h.range ht
  unfold Oper.wp
  simp [execOp, hop, hm, hrun, Result.andThen]
  exact hK' _ _ (hK w' cnt r1 r2 r3)
theorem wpList_mnext [DecidableEq κ] (g : κ → Option Value) (b r : Nat) (left : κ → Bool) (cnt : Nat) (hinj : ∀ a c, kv a = kv c → a = c)
    (hg : o.guard = none) (it : Operand) (hop : o.op = Op.next it false) (hit : a.eval it = .pointer (some ⟨r, 0, none⟩)) (h : RangeIs kv w b r g left cnt)
    (hDone : cnt = 0 → (∀ k, left k = false) → wpList P ops Q rest (a.put o.dst (.tuple #[.bool false])) w)
    (hMore : ∀ k v w' cnt', left k = true → g k = some v → RangeIs kv w' b r g (fun x => left x && !decide (x = k)) cnt' → cnt' < cnt → w.grownBy w' (some r) → w'.heap.size = w.heap.size →
      (Instr.entry (.pointer (some ⟨r, 0, none⟩))).run P w' = .ok (.tuple #[kv k, v]) w' → wpList P ops Q rest (a.put o.dst (.tuple #[.bool true, kv k, v])) w') : wpList P ops Q (o :: rest) a w := by
  refine wpList_plain hg fun K' hK' => ?_
  unfold Oper.wp
  rcases h.next (P := P) hinj o.type with ⟨h0, hl, hrun⟩ | ⟨k, v, w', cnt', hl, hv, hrun, hrg, hlt, hgr, hsz, hen⟩
  · simp [execOp, hop, hit, hrun, Result.andThen]
    exact hK' _ _ (hDone h0 hl)
  · simp [execOp, hop, hit, hrun, Result.andThen]
    exact hK' _ _ (hMore k v w' cnt' hl hv hrg hlt hgr hsz hen)
end
end Go.Proofs.YtjodocheiejkeaaGreatDoor
namespace Go.Proofs.YtjodocheiejkeaaGreatDoor
open Go.RowKit
def mapK (L K : List Int) (i : Nat) : Int → Option Value := fun v => if v ∈ keysOf (L.take i) then some (.int .i64 (byTo L K v i)) else none
theorem mem_takeK {L : List Int} {i : Nat} {v : Int} (hi : i ≤ L.length) : v ∈ keysOf (L.take i) ↔ ∃ j, j < i ∧ ((ix L j).natAbs : Int) = v := by
  rw [mem_keys]
  constructor
  · rintro ⟨l, hl, e⟩
    obtain ⟨j, hj, rfl⟩ := List.mem_iff_getElem.1 hl
    simp only [List.length_take] at hj
    refine ⟨j, by omega, ?_⟩
    rw [ix_get (by omega)]
    simpa using e
  · rintro ⟨j, hj, e⟩
    refine ⟨ix L j, List.mem_iff_getElem.2 ⟨j, by simp; omega, ?_⟩, e⟩
    rw [ix_get (by omega)]
    simp
theorem byTo_notin {L K : List Int} {i : Nat} {v : Int} (hi : i ≤ L.length) (hv : 0 < v) (h : v ∉ keysOf (L.take i)) : byTo L K v i = 0 :=
  byTo_zero_of i fun j hj => by
    have h1 : ((ix L j).natAbs : Int) ≠ v := fun e => h ((mem_takeK hi).2 ⟨j, hj, e⟩)
    constructor <;> (intro e; rw [e] at h1; omega)
theorem mapK_getD {L K : List Int} {i : Nat} {v : Int} (hi : i ≤ L.length) (hv : 0 < v) : (mapK L K i v).getD (.int .i64 0) = .int .i64 (byTo L K v i) := by
  unfold mapK
  split
  · rfl
  · rename_i h; rw [byTo_notin hi hv h]; rfl
theorem mapK_zero (L K : List Int) : mapK L K 0 = fun _ => none := by funext v; simp [mapK, keysOf]
theorem keys_takePos {L : List Int} {i : Nat} {v : Int} (hi : i ≤ L.length) (hp : ∀ j, j < i → ix L j ≠ 0) (h : v ∈ keysOf (L.take i)) : 0 < v := by
  obtain ⟨j, hj, e⟩ := (mem_takeK hi).1 h
  have := hp j hj
  omega
theorem mapK_step {L K : List Int} {i : Nat} (hi : i < L.length) (hp : ∀ j, j < i + 1 → ix L j ≠ 0) {x : Int} (hx : ((ix L i).natAbs : Int) = x) {y : Int} (hy : y = byTo L K x (i + 1)) :
    upd (mapK L K i) x (some (.int .i64 y)) = mapK L K (i + 1) := by
  subst hy
  funext v
  unfold upd
  by_cases e : v = x
  · subst e
    rw [if_pos rfl]
    unfold mapK
    rw [if_pos ((mem_takeK (by omega)).2 ⟨i, by omega, hx⟩)]
  · rw [if_neg e]
    unfold mapK
    have hm : v ∈ keysOf (L.take (i + 1)) ↔ v ∈ keysOf (L.take i) := by
      rw [mem_takeK (by omega), mem_takeK (by omega)]
      constructor
      · rintro ⟨j, hj, e2⟩
        by_cases h : j = i
        · subst h; exact absurd (e2.symm.trans hx) e
        · exact ⟨j, by omega, e2⟩
      · rintro ⟨j, hj, e2⟩
        exact ⟨j, by omega, e2⟩
    by_cases h : v ∈ keysOf (L.take i)
    · rw [if_pos h, if_pos (hm.2 h), byTo_succ]
      have hv := keys_takePos (by omega) (fun j hj => hp j (by omega)) h
      rw [if_neg (by omega), if_neg (by omega)]
      simp
    · rw [if_neg h, if_neg (fun h2 => h (hm.1 h2))]
theorem byTo_at {L K : List Int} {i : Nat} {x : Int} (_h : ix L i ≠ 0) (hx : ((ix L i).natAbs : Int) = x) : byTo L K x (i + 1) = if ix L i < 0 then byTo L K x i - ix K i else byTo L K x i + ix K i := by
  rw [byTo_succ]
  by_cases h0 : ix L i < 0
  · rw [if_neg (by omega), if_pos (by omega), if_pos h0]; omega
  · rw [if_pos (by omega), if_neg h0]
theorem negTo_at {L K : List Int} {i : Nat} : negTo L K (i + 1) = if ix L i < 0 then negTo L K i + ix K i else negTo L K i := by
  show negTo L K i + (if ix L i < 0 then ix K i else 0) = _
  split <;> omega
theorem pok_at {L K : List Int} {i : Nat} (h : pokAt L K i = true) : ix L i ≠ 0 ∧ -65536 ≤ ix L i ∧ ix L i ≤ 65536 ∧ -16777216 ≤ ix K i ∧ ix K i ≤ 16777216 := by
  unfold pokAt plitB at h
  simp only [Bool.and_eq_true, decide_eq_true_eq] at h
  exact ⟨h.1.1, h.1.2.1, h.1.2.2, h.2⟩
theorem mapK_lookE {L K : List Int} {i : Nat} {w : World} {b : Nat} (h : MapIs (Value.int .i64) w b (mapK L K i)) (hi : i ≤ L.length) {x : Int} (hx : 0 < x) :
    (Instr.lookup 41 (.map (some b)) (.int .i64 x) false).run Tryz.prog w = .ok (.int .i64 (byTo L K x i)) w := by
  have := h.lookup kvInt Tryz.underlying41 Tryz.underlying3 (Tryz.zeroValue3 w) x
  rw [mapK_getD hi hx] at this
  exact this
structure Met (L : List Int) (left : Int → Bool) (ks : List Int) : Prop where
  nodup : ks.Nodup
  mem : ∀ v, v ∈ ks ↔ v ∈ keysOf L ∧ left v = false
theorem Met.start (L K : List Int) : Met L (fun v => (mapK L K L.length v).isSome) [] := by
  refine ⟨List.nodup_nil, fun v => ?_⟩
  simp only [List.not_mem_nil, false_iff, not_and, Bool.not_eq_false]
  intro h
  unfold mapK
  rw [List.take_length, if_pos h]
  rfl
theorem Met.push {L : List Int} {left : Int → Bool} {ks : List Int} (h : Met L left ks) {v : Int} (hv : left v = true) (hm : v ∈ keysOf L) : Met L (fun x => left x && !decide (x = v)) (ks ++ [v]) := by
  refine ⟨List.nodup_append.2 ⟨h.nodup, by simp, fun a ha b hb => ?_⟩, fun x => ?_⟩
  · rw [List.mem_singleton] at hb
    subst hb
    rintro rfl
    have := ((h.mem a).1 ha).2
    rw [hv] at this; cases this
  · rw [List.mem_append, List.mem_singleton, h.mem x]
    by_cases e : x = v
    · subst e
      simp [hm]
    · simp [e]
theorem Met.perm {L : List Int} {left : Int → Bool} {ks : List Int} (h : Met L left ks) (h0 : ∀ v, left v = false) : ks.Perm (keysOf L) :=
  nodup_perm h.nodup (sorted_nodup (keys_sorted L)) fun x => by rw [h.mem x]; exact ⟨fun h => h.1, fun h2 => ⟨h2, h0 x⟩⟩
theorem mapK_some {L K : List Int} {v : Int} {u : Value} (h : mapK L K L.length v = some u) : v ∈ keysOf L ∧ u = .int .i64 (byTo L K v L.length) := by
  unfold mapK at h
  rw [List.take_length] at h
  split at h
  · rename_i h2; exact ⟨h2, (Option.some.inj h).symm⟩
  · cases h
theorem keys_len : ∀ L : List Int, (keysOf L).length ≤ L.length
  | [] => by simp [keysOf]
  | l :: L => by
    have ih := keys_len L
    have : ∀ (v : Int) (l : List Int), (insK v l).length ≤ l.length + 1 := fun v l => by
      induction l with
      | nil => simp [insK]
      | cons x l ih => unfold insK; split <;> (try split) <;> simp <;> omega
    have := this (l.natAbs : Int) (keysOf L)
    simp only [keysOf, List.length_cons]
    omega
theorem Met.len {L : List Int} {left : Int → Bool} {ks : List Int} (h : Met L left ks) : ks.length ≤ L.length := by
  have h1 : ks.Perm ((keysOf L).filter fun x => decide (x ∈ ks)) :=
    nodup_perm h.nodup ((sorted_nodup (keys_sorted L)).filter _) fun x => by
      rw [List.mem_filter, decide_eq_true_eq]
      exact ⟨fun hx => ⟨((h.mem x).1 hx).1, hx⟩, fun hx => hx.2⟩
  have h2 := h1.length_eq
  have h3 := keys_len L
  have h4 := List.length_filter_le (fun x => decide (x ∈ ks)) (keysOf L)
  omega
end Go.Proofs.YtjodocheiejkeaaGreatDoor
namespace Go.Proofs.YtjodocheiejkeaaGreatDoor
open Go.RowKit Go.Lib
theorem geti (l : List Int) {j : Nat} (hj : j < l.length) : l.toArray[j]! = l[j] := by
  rw [getElem!_pos l.toArray j (by simpa using hj)]
  simp
theorem compact_sorted {l : List Int} (hs : l.Pairwise (· ≤ ·)) : ∀ m, m ≤ l.length → (compactUpTo l.toArray m).Pairwise (· < ·) ∧ ∀ x, x ∈ compactUpTo l.toArray m ↔ ∃ j, j < m ∧ l.toArray[j]! = x
  | 0, _ => by simp [compactUpTo]
  | m + 1, hm => by
    obtain ⟨h1, h2⟩ := compact_sorted hs m (by omega)
    rw [List.pairwise_iff_getElem] at hs
    have hle : ∀ i j, i ≤ j → j < l.length → l.toArray[i]! ≤ l.toArray[j]! := fun i j hij hj => by
      rw [geti l hj, geti l (by omega)]
      by_cases e : i = j
      · subst e; exact Int.le_refl _
      · exact hs i j (by omega) hj (by omega)
    rw [compactUpTo_succ]
    by_cases hk : keeps l.toArray m = true
    · rw [if_pos hk]
      unfold keeps at hk
      simp only [decide_eq_true_eq] at hk
      refine ⟨List.pairwise_append.2 ⟨h1, List.pairwise_singleton _ _, fun x hx y hy => ?_⟩, fun x => ?_⟩
      · rw [List.mem_singleton] at hy
        subst hy
        obtain ⟨j, hj, rfl⟩ := (h2 x).1 hx
        have h3 := hle j (m - 1) (by omega) (by omega)
        have h4 := hle (m - 1) m (by omega) (by omega)
        rcases hk with hk | hk
        · omega
        · have : l.toArray[m - 1]! ≠ l.toArray[m]! := fun e => hk e.symm
          omega
      · rw [List.mem_append, h2 x, List.mem_singleton]
        constructor
        · rintro (⟨j, hj, e⟩ | e)
          · exact ⟨j, by omega, e⟩
          · exact ⟨m, by omega, e.symm⟩
        · rintro ⟨j, hj, e⟩
          by_cases h : j = m
          · subst h; exact .inr e.symm
          · exact .inl ⟨j, by omega, e⟩
    · rw [if_neg hk, List.append_nil]
      refine ⟨h1, fun x => ?_⟩
      rw [h2 x]
      unfold keeps at hk
      simp only [decide_eq_true_eq, not_or, ne_eq, Decidable.not_not] at hk
      constructor
      · rintro ⟨j, hj, e⟩
        exact ⟨j, by omega, e⟩
      · rintro ⟨j, hj, e⟩
        by_cases h : j = m
        · subst h; exact ⟨j - 1, by omega, hk.2.symm.trans e⟩
        · exact ⟨j, by omega, e⟩
theorem sortI_pairwise (l : List Int) : (l.mergeSort fun x y => decide (x ≤ y)).Pairwise (· ≤ ·) := by
  have := List.pairwise_mergeSort (le := fun x y : Int => decide (x ≤ y)) (fun a b c h1 h2 => by simp only [decide_eq_true_eq] at *; omega) (fun a b => by simp only [Bool.or_eq_true, decide_eq_true_eq]; omega) l
  exact this.imp fun h => by simpa using h
theorem sortI_mem (l : List Int) (x : Int) : x ∈ (l.mergeSort fun x y => decide (x ≤ y)) ↔ x ∈ l := (List.mergeSort_perm l _).mem_iff
theorem compact_set (l : List Int) : compact (l.mergeSort fun x y => decide (x ≤ y)) = setL l := by
  have h := compact_sorted (sortI_pairwise l) _ (Nat.le_refl _)
  refine sorted_eqP h.1 (setL_sorted l) fun x => ?_
  rw [mem_setL, ← sortI_mem l x]
  have h2 := h.2 x
  unfold compact
  rw [h2]
  constructor
  · rintro ⟨j, hj, e⟩
    rw [geti _ hj] at e
    exact e ▸ List.getElem_mem hj
  · intro hx
    obtain ⟨j, hj, e⟩ := List.mem_iff_getElem.1 hx
    exact ⟨j, hj, by rw [geti _ hj]; exact e⟩
theorem sortI_nodup {l s : List Int} (hn : l.Nodup) (hs : s.Pairwise (· < ·)) (h : ∀ x, x ∈ l ↔ x ∈ s) : (l.mergeSort fun x y => decide (x ≤ y)) = s := by
  refine sorted_eqP ?_ hs fun x => (sortI_mem l x).trans (h x)
  have h1 := sortI_pairwise l
  have h2 : (l.mergeSort fun x y => decide (x ≤ y)).Nodup := (List.mergeSort_perm l _).nodup_iff.2 hn
  exact (h1.and h2).imp fun h => by have := h.1; have := h.2; omega
theorem sortI_len (l : List Int) : (l.mergeSort fun x y => decide (x ≤ y)).length = l.length := List.length_mergeSort _
end Go.Proofs.YtjodocheiejkeaaGreatDoor
namespace Go.Proofs.YtjodocheiejkeaaGreatDoor
open Go.RowKit Go.Sort
theorem ix_map (l : List Int) : (List.range l.length).map (fun i => Value.int .i64 (ix l i)) = l.map (Value.int .i64) := by
  apply List.ext_getElem (by simp)
  intro i h1 h2
  simp only [List.length_map, List.length_range] at h1
  simp [ix, List.getD_eq_getElem?_getD, List.getElem?_eq_getElem h1]
theorem fits_mem {l s : List Int} (h : Fits l) (hm : ∀ x ∈ s, x ∈ l) : Fits s := fitI fun x hx => by
  obtain ⟨j, hj, e⟩ := List.mem_iff_getElem.1 (hm x hx)
  have := h j
  rw [ix_get hj, e] at this
  exact this
abbrev srt (l : List Int) : List Int := l.mergeSort fun x y => decide (x ≤ y)
theorem sortI_own {base : Nat} {w : World} {v : Value} {l : List Int} (h : OwnI base w v l) :
    Calls Tryz.prog 78 #[v] w fun e w' => e = .returned (.tuple #[]) ∧ OwnI base w' v (srt l) ∧ w.grownBy w' v.ownBlock := by
  have hfit : Fits (srt l) := fits_mem h.2 fun x hx => (sortI_mem l x).1 hx
  have hlen := sortI_len l
  have hb8 := h.1.2
  rcases h.1.1.2 with ⟨rfl, e⟩ | ⟨g, cap, cur, rfl, hb, hg, hn, hm, hs, hx⟩
  · have e0 : l = [] := List.eq_nil_of_length_eq_zero e
    subst e0
    refine (Tryz.slices_Sort_int_none none 0 w).mono ?_
    rintro e w' ⟨rfl, rfl⟩
    refine ⟨rfl, ?_, ⟨rfl, rfl, rfl, Nat.le_refl _, fun _ _ _ => rfl⟩⟩
    have e2 : srt [] = [] := by simp [srt]
    rw [e2]; exact h
  · rw [ix_map] at hx
    have hH := holds_of_blockI (ss := l) hg (by simpa using hx)
    have hc := Tryz.slices_Sort_int g 0 cap l w hH (Array.getElem?_eq_some_iff.1 hg).1 (by omega)
    refine hc.mono ?_
    rintro e w' ⟨rfl, n, os, rfl⟩
    refine ⟨rfl, ⟨⟨?_, by rw [hlen]; exact hb8⟩, hfit⟩, grownBy_sortedI _⟩
    have h2 := ownsRow_sortedI (n := n) (os := os) (base := base) (ts := srt l) hlen hb hg hn hm hs
    rw [ix_map, hlen]
    exact h2
end Go.Proofs.YtjodocheiejkeaaGreatDoor
