/- My texts Pb2, ExtR, Pb3, Pb4, Rn0, Range, merged. -/
import Derived.Test.YtfhpfbakoiekpaaGreatDoorM08
import Derived.Test.YtfhpfbakoiekpaaGreatDoorM00
import Derived.Sort.QuietThIn
import Derived.RangeFuncCalls
import Derived.Maps.RangeWalk

/- pb.Valid: its contract. -/
namespace Go.Proofs.YtfhpfbakoiekpaaGreatDoor
open Go.RowKit Go.Shelf
attribute [local go_sem] Oper.semAt_some

theorem blk_ownP {β : Type} (b : Nat) (c : List Value) (t : TypeId) : Own (fun (_ : β) W => Blk W b c t) := fun s X Y row hs hg hrow => by
  have hne : some b ≠ row := fun e' => by
    obtain ⟨_, ho, hc⟩ := hrow b e'.symm
    rw [show X.heap[b]? = _ from hs] at ho
    cases ho
    cases hc
  exact hs.same (hg.block b hs.lt hne)

theorem lim_b {S : List Nat} {w : World} (W : World) (l : Nat) (o o' : Obj) (hl : w.heap.size ≤ l) (h : W.heap[l]? = some o) (hc : o.isCells = false) (hw : o.isWalk = false) : Lim w.heap.size S W (W.putObj l o') :=
  .of_below (belowK_b (w := w) (Nat.le_refl _) W l o o' hl h hc hw) (Nat.le_refl _)

/-- A range over the parts of a constraint. -/
theorem parts_loop {c : PBC} {wi w1 : World} {vl vk : Value} (hL : Ints wi vl c.lits) (hK : Ints wi vk c.coefs) (hlen : c.lits.length = c.coefs.length) {S : List Nat} {cb : Nat}
    (hst : PartSt wi w1 S cb vl vk c.bound) (hS : ∀ s ∈ S, wi.heap.size ≤ s) (hne : cb ∉ S)
    {g : Operand} {ps : Array Tmp} {assign body : Code} {Q : Exit → Act → World → Prop} {a : Act} {n : Nat} (hn : 3 ≤ n)
    (hg : a.eval g = .func (.func 114) #[] #[.pointer (some ⟨cb, 0, none⟩)]) (hps : ps.size = 2)
    (I : List (PV c) → World → Prop) (Ix : Code → List (PV c) → World → Prop) (hI : OwnFrom w1.heap.size I) (hIx : ∀ c', OwnFrom w1.heap.size (Ix c')) (h0 : I [] w1) (a₁ : PV c → Act)
    (hassign : ∀ (l : Nat) (x : PV c) (W : World) (K : Act → World → Prop), K (a₁ x) W →
      assign.wpIn (Fence.wide.inRound l) (n - 1 - 1) Tryz.prog (Exit.then K (fun _ _ _ => False)) { tmps := (ps.zip #[Value.int .i64 x.1.1, .int .i64 x.1.2]).foldl (fun t (p, v) => t.setIfInBounds p v) a.tmps, defers := [] } W)
    (hbody : ∀ (l : Nat) (pre : List (PV c)) (x : PV c) (W : World), I pre W → pre.length < c.lits.length → body.wpIn (Fence.wide.inRound l) (n - 1 - 1) Tryz.prog (ownPostK (Lim w1.heap.size S) I Ix (pre ++ [x]) W) (a₁ x) W)
    (hdone : ∀ (D : Nat) (xs : List (PV c)) (W : World), w1.heap.size ≤ D → pvs xs = c.lits.zip c.coefs → I xs W → W.heap[D]? = some (.deferred (some [])) → Q .normal { a with defers := { target := .collected D, args := #[] } :: a.defers } W)
    (hstop : ∀ (D : Nat) (c' : Code) (pre : List (PV c)) (W : World), w1.heap.size ≤ D → (∃ k, k ≤ c.lits.length ∧ pvs pre = (c.lits.zip c.coefs).take k) → Ix c' pre W → W.heap[D]? = some (.deferred (some [])) → c'.wpIn Fence.wide n Tryz.prog Q { a with defers := { target := .collected D, args := #[] } :: a.defers } W) :
    (Code.rangeFunc g ps assign body).wpIn Fence.wide n Tryz.prog Q a w1 :=
  wpIn_rangeFunc_ownF rfl (by omega) (gf := 114) (lb := #[.pointer (some ⟨cb, 0, none⟩)]) hg trivial (enters_of Tryz.func114 (by kernel_rfl) rfl)
    (parts_stops c wi w1 vl vk hL hK hlen S cb hst hS hne (n - 1) (by omega)) (fun h k => h.trans k) (fun W l o o' hl h hc hw => lim_b W l o o' hl h hc hw) (Below.refl _ _) (fun _ => by rw [hps]; rfl)
    I Ix hI hIx h0 a₁ hassign hbody hdone hstop


/-! ### value -/
end Go.Proofs.YtfhpfbakoiekpaaGreatDoor

/- A region that draws its order, in the body of a range over a function: one walk serves every order. -/
namespace Go.Proofs.YtfhpfbakoiekpaaGreatDoor
open Go.RowKit

/-- No operation defers a call. -/
def noDefer (o : Oper) : Bool := match o.op with
  | .defer _ => false
  | _ => true

theorem noDefer_ne {o : Oper} (h : noDefer o = true) : ∀ c, o.op ≠ .defer c := by
  intro c e
  simp [noDefer, e] at h

section
variable {F : Fence} {n : Nat} {P : Program} {ops : Array Oper} {Q : Exit → Act → World → Prop}

theorem upon_inRound (r : Nat) {o : Oper} {a : Act} {next : Act → World → Prop} {x : Result Next} (h : o.uponIn F n P a next Q x) : o.uponIn (F.inRound r) n P a next Q x := by
  unfold Oper.uponIn at *
  split at h
  all_goals first | exact h | exact h.elim

theorem oper_inRound (r : Nat) (_hro : F.round = none) {o : Oper} (hd : noDefer o = true) {a : Act} {w : World} {next : Act → World → Prop} (h : o.wpIn F n P a w next Q) : o.wpIn (F.inRound r) n P a w next Q := by
  unfold Oper.wpIn at *
  refine ⟨h.1, ?_⟩
  have h2 := h.2
  rw [Oper.semAt_eq _ _ _ (noDefer_ne hd)] at h2
  rw [Oper.semAt_eq _ _ _ (noDefer_ne hd)]
  exact upon_inRound r h2

theorem ops_inRound (r : Nat) (hro : F.round = none) (hd : ops.all noDefer = true) : ∀ (l : List Nat) (a : Act) (w : World), wpOpsIn F n P ops Q l a w → wpOpsIn (F.inRound r) n P ops Q l a w
  | [], _, _, h => h
  | i :: rest, a, w, h => by
    simp only [wpOpsIn] at *
    cases ho : ops[i]? with
    | none =>
      simp only [ho] at h
      exact ops_inRound r hro hd rest a w h
    | some o =>
      simp only [ho] at h ⊢
      have hdo : noDefer o = true := by
        obtain ⟨hi, rfl⟩ := Array.getElem?_eq_some_iff.1 ho
        exact (Array.all_eq_true.1 hd) i hi
      split at h
      · rename_i hw
        rw [if_pos hw]
        exact oper_inRound r hro hdo (Oper.wpIn_mono (fun a w h => ops_inRound r hro hd rest a w h) h)
      · rename_i hw
        rw [if_neg hw]
        exact ⟨h.1, ops_inRound r hro hd rest _ _ h.2⟩

theorem quiet_wide {C : World → Prop} {K : Act → Prop} : ∀ (l : List Oper) (a : Act), wpQuiet P ops C K l a → wpQuietIn Fence.wide n P ops C K l a
  | [], _, h => h
  | o :: rest, a, h => by
    refine ⟨fun _ _ _ _ => trivial, ?_⟩
    simp only [wpQuiet] at h
    split
    · rename_i hw
      rw [if_pos hw] at h
      obtain ⟨v, h1, h2⟩ := h
      refine ⟨v, fun w hC => ?_, quiet_wide rest _ h2⟩
      have h3 := h1 w hC
      unfold Oper.quietAt at h3
      unfold Oper.quietAtIn
      cases hx : (execOp a.eval o).run P w with
      | halt s w' => rw [hx] at h3; exact h3.elim
      | ok x w' =>
        rw [hx] at h3
        cases x with
        | value u => exact h3
        | skip => exact h3
        | enter f args => exact ⟨h3.1, (fun e => by cases e), callsIn_wide.2 h3.2⟩
        | _ => exact h3.elim
    · rename_i hw
      rw [if_neg hw] at h
      exact quiet_wide rest _ h
end

theorem wp_region_extR {P : Program} {id n r : Nat} {Q : Exit → Act → World → Prop} {a : Act} {w : World} {l : List Oper} (hm : P.follows .mixedOrders = true) (hB : Region.lexB .any l.toArray = true) (hd : l.toArray.all noDefer = true)
    (h : wpQuiet P l.toArray (fun w' => ∃ e : Ext w, w' = e.world) (fun a' => ∀ w', (∃ e : Ext w, w' = e.world) → Q .normal a' w') l a) : (Code.region id l.toArray true).wpIn (Fence.wide.inRound r) n P Q a w := by
  refine wpIn_region_draw fun t => ops_inRound r rfl hd _ _ _ ?_
  simp only [Region.lexB, Bool.and_eq_true] at hB
  simp only [Region.schedule, hm, Bool.true_or, if_true]
  refine wpAnyIn_sound _ t _ a _ (wpAnyIn_of_quiet (F := Fence.wide) (n := n) (C := fun w' => ∃ e : Ext w, w' = e.world) (Q := fun a' => ∀ w', (∃ e : Ext w, w' = e.world) → Q .normal a' w') rfl (fun _ w' hw' h => h w' hw') _ _ _ _ ⟨⟨_, (Below.refl _ w).drew⟩, rfl⟩ ?_)
  have := wpAnyQIn_lex (F := Fence.wide) (n := n) (C := fun w' => ∃ e : Ext w, w' = e.world) (md := .any) hB.1 l.toArray.toList 0 (Array.replicate l.toArray.size false) a (by simp) (by simpa using hB.2) (by simpa using quiet_wide (n := n) _ _ h)
  simpa using this

end Go.Proofs.YtfhpfbakoiekpaaGreatDoor

/- pb.Valid: its contract. -/
namespace Go.Proofs.YtfhpfbakoiekpaaGreatDoor
open Go.RowKit Go.Shelf
attribute [local go_sem] Oper.semAt_some


/-- Where Valid's loop is. -/
structure VSt (c : PBC) (H : Nat) (w : World) (vl vk : Value) (pre : List (PV c)) (W : World) : Prop where
  ok : okF c.bound 0 (pvs pre) = true
  box : Blk W H [vl, vk, .int .i64 c.bound] 30
  res : Blk W (H + 1) [.bool false] 4
  last : Blk W (H + 1 + 1) [.int .i64 (lastF 0 (pvs pre))] 3
  sum : Blk W (H + 1 + 1 + 1) [.int .i64 (sumP (pvs pre))] 3

/-- Behind w nothing is turned, and what w1 has is there. -/
structure Up (w w1 W : World) : Prop where
  below : Below w.heap.size w W
  size : w1.heap.size ≤ W.heap.size

theorem Up.on {w w1 W W' : World} (h : Up w w1 W) (hb : Below W.heap.size W W') : Up w w1 W' := ⟨bon h.below hb, Nat.le_trans h.size hb.size⟩
theorem Up.set {w w1 W : World} (h : Up w w1 W) (b o : Nat) (v : Value) (hb : w.heap.size ≤ b) : Up w w1 (W.setCell ⟨b, o, none⟩ v) := ⟨h.below.setCell (p := ⟨b, o, none⟩) hb v, by rw [size_set]; exact h.size⟩
theorem Up.own {β : Type} {w w1 : World} {B : Nat} (hB : w.heap.size ≤ B) : OwnFrom B (fun (_ : β) W => Up w w1 W) := fun s X Y row hs hg hr =>
  ⟨ownFrom_below (Nat.le_refl _) hB s X Y row hs.below hg hr, Nat.le_trans hs.size hg.size⟩

theorem VSt.own {c : PBC} {H B : Nat} {w : World} {vl vk : Value} : OwnFrom B (fun pre W => VSt c H w vl vk pre W) := fun pre X Y row hs hg hrow => by
  have hr : ∀ r, row = some r → ∃ o : Obj, X.heap[r]? = some o ∧ o.isCells = false := fun r e => (hrow r e).2
  exact ⟨hs.ok, blk_ownP _ _ _ () X Y row hs.box hg hr, blk_ownP _ _ _ () X Y row hs.res hg hr, blk_ownP _ _ _ () X Y row hs.last hg hr, blk_ownP _ _ _ () X Y row hs.sum hg hr⟩

theorem pbV_of {c : PBC} (h1 : c.lits.length = c.coefs.length) (h2 : 0 ≤ c.bound ∧ c.bound ≤ 16777216) : pbV c = (okF c.bound 0 (c.lits.zip c.coefs) && (decide (c.bound ≤ sumP (c.lits.zip c.coefs)) || (decide (c.lits.length = 0) && decide (c.bound = 1)))) := by
  unfold pbV; rw [decide_eq_true h1, decide_eq_true h2]; rfl

theorem okF_small {bd : Int} {l : List (Int × Int)} (h : okF bd 0 l = true) (hb : bd ≤ 16777216) : 0 ≤ lastF 0 l ∧ lastF 0 l ≤ 65536 ∧ 0 ≤ sumP l ∧ sumP l ≤ 1099511627776 := by
  obtain ⟨h1, h2, h3, h4⟩ := okF_bound l 0 (Int.le_refl _) h
  by_cases e : l = []
  · subst e; simp [lastF, sumP]
  · have h5 := h4 e
    have h6 : (l.length : Int) ≤ 65536 := by omega
    have h7 : bd * (l.length : Int) ≤ 16777216 * 65536 := by
      refine Int.le_trans (Int.mul_le_mul_of_nonneg_right hb (by omega)) ?_
      exact Int.mul_le_mul_of_nonneg_left h6 (by omega)
    omega

theorem fit_mem {l : List Int} (h : Fits l) {x : Int} (hx : x ∈ l) : -9223372036854775808 ≤ x ∧ x ≤ 9223372036854775807 := by
  obtain ⟨j, hj, rfl⟩ := mem_ix_iff.1 hx
  exact h j

theorem pliteral_lit (l : Int) (b : Bool) (h : plitB l = b) (w : World) : Calls Tryz.prog 102 #[.int .i64 l] w fun e w' => e = .returned (.bool b) ∧ w = w' := h ▸ pliteral_any l w

theorem keepsO_below {W W' : World} (h : Below W.heap.size W W') : KeepsOthers W W' := ⟨h.size, fun k _ hk _ => (h.block k (Array.getElem?_eq_some_iff.1 hk).1).trans hk⟩


set_option maxHeartbeats 4000000 in
set_option maxRecDepth 100000 in
theorem pbValid_any (v : Value) (c : PBC) (w : World) (h : PBIs w v c) :
    Calls Tryz.prog 43 #[v] w fun e w' => e = .returned (.bool (pbV c)) ∧ Below w.heap.size w w' := by
  obtain ⟨vl, vk, rfl, hL, hK, hbd⟩ := h
  obtain ⟨a1, c1, rfl, -, hl1, -, -⟩ := hL.form
  obtain ⟨a2, c2, rfl, -, hl2, -, -⟩ := hK.form
  have HL := Lib.hid hL
  have HK := Lib.hid hK
  unfold InI at hbd
  clear hL hK
  by_cases h1 : c.lits.length = c.coefs.length
  · have HLN := Lib.hid h1
    rw [← h1] at HK hl2 ⊢
    clear h1
    by_cases h2 : c.bound < 0
    · have HF : Hid (pbV c = false) := Lib.hid (by unfold pbV; rw [decide_eq_false (show ¬ (0 ≤ c.bound ∧ c.bound ≤ 16777216) by omega)]; simp)
      go_enter Tryz.func43, Tryz.ntmps43
      go_wp2
      exact bodyPost_ret (v := .bool false) (by simp [results, Tryz.f43, go_sem]) rfl ⟨ret_bool HF.out.symm, by (repeat first | exact Below.refl _ _ | (refine Below.setCell ?_ (by first | omega | (simp; done) | (simp; omega)) _) | (refine bal ?_ _))⟩
    · by_cases h3 : 16777216 < c.bound
      · have HF : Hid (pbV c = false) := Lib.hid (by unfold pbV; rw [decide_eq_false (show ¬ (0 ≤ c.bound ∧ c.bound ≤ 16777216) by omega)]; simp)
        go_enter Tryz.func43, Tryz.ntmps43
        go_wp2
        exact bodyPost_ret (v := .bool false) (by simp [results, Tryz.f43, go_sem]) rfl ⟨ret_bool HF.out.symm, by (repeat first | exact Below.refl _ _ | (refine Below.setCell ?_ (by first | omega | (simp; done) | (simp; omega)) _) | (refine bal ?_ _))⟩
      · have HPV := Lib.hid (pbV_of HLN.out (show 0 ≤ c.bound ∧ c.bound ≤ 16777216 by omega))
        refine (callsIn_wide (n := 6)).1 ?_
        refine callsIn_of_wp_marks Tryz.func43 rfl trivial ?_ rfl
        simp only [Tryz.ntmps43, List.size_toArray, List.length_cons, List.length_nil, Nat.reduceAdd, Nat.reduceSub, Array.replicate_succ, Array.replicate_zero, List.push_toArray, List.append_toArray, List.nil_append, List.cons_append]
        gi_wp2_with (refine ⟨trivial, ?_⟩; gi_at_call 71; refine (callsIn_wide.2 (parts_any _ _ _ _ ⟨_, _, _, rfl⟩ ⟨_, _, _, rfl⟩)).mono ?_; rintro e w1 ⟨rfl, hb1, hp1⟩)
        have b0 := Blk.below (b := w.heap.size) (c := [.slice a1 c.lits.length c1, .slice a2 c.lits.length c2, .int .i64 c.bound]) (t := 30) (by repeat first | (refine Blk.newAt _ _ _ ?_; first | rfl | (simp only [World.size_alloc]; done) | (simp only [World.size_alloc]; omega)) | refine Blk.alloc ?_ _) hb1
        have b1 := Blk.below (b := w.heap.size + 1) (c := [.bool false]) (t := 4) (by repeat first | (refine Blk.newAt _ _ _ ?_; first | rfl | (simp only [World.size_alloc]; done) | (simp only [World.size_alloc]; omega)) | refine Blk.alloc ?_ _) hb1
        have b2 := Blk.below (b := w.heap.size + 1 + 1) (c := [.int .i64 0]) (t := 3) (by repeat first | (refine Blk.newAt _ _ _ ?_; first | rfl | (simp only [World.size_alloc]; done) | (simp only [World.size_alloc]; omega)) | refine Blk.alloc ?_ _) hb1
        have b3 := Blk.below (b := w.heap.size + 1 + 1 + 1) (c := [.int .i64 0]) (t := 3) (by repeat first | (refine Blk.newAt _ _ _ ?_; first | rfl | (simp only [World.size_alloc]; done) | (simp only [World.size_alloc]; omega)) | refine Blk.alloc ?_ _) hb1
        have hbw : Below w.heap.size w w1 := by
          refine Below.trans ?_ (hb1.mono (by simp; omega))
          (repeat first | exact Below.refl _ _ | (refine Below.setCell ?_ (by first | omega | (simp; done) | (simp; omega)) _) | (refine bal ?_ _))
        simp only [World.size_alloc] at hp1 hb1
        have hz := hp1.lt
        have hst : PartSt w w1 [w.heap.size + 1 + 1, w.heap.size + 1 + 1 + 1] (w.heap.size + 1 + 1 + 1 + 1) (.slice a1 c.lits.length c1) (.slice a2 c.lits.length c2) c.bound := ⟨fun i hi => hbw.block i hi, hbw.size, hp1⟩
        clear hb1 hp1
        refine parts_loop HL.out HK.out HLN.out hst (fun s hs => by simp only [List.mem_cons, List.not_mem_nil, or_false] at hs; omega) (by simp; omega) (by omega) rfl rfl
          (fun pre W => VSt c w.heap.size w (.slice a1 c.lits.length c1) (.slice a2 c.lits.length c2) pre W ∧ Up w w1 W)
          (fun e pre W => (Blk W (w.heap.size + 1) [.bool false] 4 ∧ (e = .ret ∧ okF c.bound 0 (pvs pre) = false)) ∧ Up w w1 W)
          (OwnFrom.and VSt.own (Up.own hbw.size))
          (fun e => OwnFrom.and (OwnFrom.and (Own.from (blk_ownP _ _ _) _) (ownFrom_pure _ _)) (Up.own hbw.size))
          ⟨⟨rfl, b0, b1, b2, b3⟩, hbw, Nat.le_refl _⟩
          ?a1 ?assign ?body ?done ?stop
        case assign =>
          intro l x W K hK
          gi_wp2
          exact hK
        case body =>
          rintro l pre x W ⟨hv, hB⟩ hlt
          have HV := Lib.hid hv
          have HB := Lib.hid hB
          obtain ⟨hok, k0, k1, k2, k3⟩ := hv
          obtain ⟨⟨x1, x2⟩, hx⟩ := x
          dsimp only
          have hx1 := fit_mem HL.out.2 (List.of_mem_zip hx).1
          have hx2 := fit_mem HK.out.2 (List.of_mem_zip hx).2
          have hsm := okF_small hok (by omega)
          have HX : Hid (okF c.bound 0 (pvs (pre ++ [⟨(x1, x2), hx⟩])) = chkB c.bound (lastF 0 (pvs pre)) (x1, x2)) := Lib.hid (by rw [pvs_snoc, okF_snoc, hok, Bool.true_and])
          have HS1 : Hid (lastF 0 (pvs (pre ++ [⟨(x1, x2), hx⟩])) = (x1.natAbs : Int)) := Lib.hid (by rw [pvs_snoc, lastF_snoc])
          have HS2 : Hid (sumP (pvs (pre ++ [⟨(x1, x2), hx⟩])) = sumP (pvs pre) + x2) := Lib.hid (by rw [pvs_snoc, sumP_snoc])
          have HQ0 := Lib.hid k0
          have HQ1 := Lib.hid k1
          have HQ2 := Lib.hid k2
          have HQ3 := Lib.hid k3
          have ex0 := fun (e : Ext W) (o : Nat) => (bcell e.below _ o k0.lt).trans (k0.cell o)
          have ex2 := fun (e : Ext W) => (bcell e.below _ 0 k2.lt).trans (k2.cell 0)
          clear hok k0 k1 k2 k3 hB hst b0 b1 b2 b3
          generalize lastF 0 (pvs pre) = L9 at *
          generalize sumP (pvs pre) = S9 at *
          have HCK : Hid (chkB c.bound L9 (x1, x2) = (plitB x1 && decide (L9 < (x1.natAbs : Int)) && decide (1 ≤ x2) && decide (x2 ≤ c.bound))) := Lib.hid rfl
          cases hlb : plitB x1 with
          | false =>
            have HLB := Lib.hid hlb
            have HCF : Hid (chkB c.bound L9 (x1, x2) = false) := Lib.hid (by rw [HCK.out, hlb]; rfl)
            clear hlb
            gi_wp2
            refine wp_region_extR (by kernel_rfl) (by kernel_rfl) (by kernel_rfl) ?_
            repeat (go_big_quiet_step ((first | (go_at_call 102; exact Calls.ext_of_same (pliteral_lit _ _ HLB.out _)) | (go_at_call 74; exact Calls.ext_of_same (abs_any _ HAB.out _)))))
            refine wpQuiet_nil ?_
            intro w9 hw'
            obtain ⟨e9, he9⟩ := hw'
            have hb9 := e9.below
            rw [← he9] at hb9
            clear he9 e9
            try dsimp only
            have HB9 := Lib.hid hb9
            have u1 := (HQ1.out.below hb9).cell 0
            have v1 := (HQ1.out.below hb9).free 0
            clear hb9
            gi_wp2
            exact ⟨(keepsO_below HB9.out).trans (KeepsOthers.setCell _ _ _), ⟨(HQ1.out.below HB9.out).set 0 _, rfl, by rw [HX.out, HCF.out]⟩, (HB.out.on HB9.out).set _ _ _ (by omega)⟩
          | true =>
            have HLB := Lib.hid hlb
            have hab : -65536 ≤ x1 ∧ x1 ≤ 65536 := by unfold plitB at hlb; rw [decide_eq_true_eq] at hlb; exact hlb.2
            have HAB : Hid (-4611686018427387904 ≤ x1 ∧ x1 ≤ 4611686018427387904) := Lib.hid (by omega)
            rw [hlb, Bool.true_and] at HCK
            clear hlb
            by_cases g1 : (x1.natAbs : Int) ≤ L9
            · have HCF : Hid (chkB c.bound L9 (x1, x2) = false) := Lib.hid (by rw [HCK.out, decide_eq_false (by omega)]; rfl)
              have d1 : decide ((x1.natAbs : Int) ≤ L9) = true := decide_eq_true g1
              gi_wp2
              refine wp_region_extR (by kernel_rfl) (by kernel_rfl) (by kernel_rfl) ?_
              repeat (go_big_quiet_step ((first | (go_at_call 102; exact Calls.ext_of_same (pliteral_lit _ _ HLB.out _)) | (go_at_call 74; exact Calls.ext_of_same (abs_any _ HAB.out _)))))
              refine wpQuiet_nil ?_
              intro w9 hw'
              obtain ⟨e9, he9⟩ := hw'
              have hb9 := e9.below
              rw [← he9] at hb9
              clear he9 e9
              try dsimp only
              have HB9 := Lib.hid hb9
              have u1 := (HQ1.out.below hb9).cell 0
              have v1 := (HQ1.out.below hb9).free 0
              clear hb9
              gi_wp2
              exact ⟨(keepsO_below HB9.out).trans (KeepsOthers.setCell _ _ _), ⟨(HQ1.out.below HB9.out).set 0 _, rfl, by rw [HX.out, HCF.out]⟩, (HB.out.on HB9.out).set _ _ _ (by omega)⟩
            · have d1 : decide ((x1.natAbs : Int) ≤ L9) = false := decide_eq_false g1
              by_cases g2 : x2 < 1
              · have HCF : Hid (chkB c.bound L9 (x1, x2) = false) := Lib.hid (by rw [HCK.out, decide_eq_false (show ¬ 1 ≤ x2 by omega)]; simp)
                have d2 : decide (x2 < 1) = true := decide_eq_true g2
                gi_wp2
                refine wp_region_extR (by kernel_rfl) (by kernel_rfl) (by kernel_rfl) ?_
                repeat (go_big_quiet_step ((first | (go_at_call 102; exact Calls.ext_of_same (pliteral_lit _ _ HLB.out _)) | (go_at_call 74; exact Calls.ext_of_same (abs_any _ HAB.out _)))))
                refine wpQuiet_nil ?_
                intro w9 hw'
                obtain ⟨e9, he9⟩ := hw'
                have hb9 := e9.below
                rw [← he9] at hb9
                clear he9 e9
                try dsimp only
                have HB9 := Lib.hid hb9
                have u1 := (HQ1.out.below hb9).cell 0
                have v1 := (HQ1.out.below hb9).free 0
                clear hb9
                gi_wp2
                exact ⟨(keepsO_below HB9.out).trans (KeepsOthers.setCell _ _ _), ⟨(HQ1.out.below HB9.out).set 0 _, rfl, by rw [HX.out, HCF.out]⟩, (HB.out.on HB9.out).set _ _ _ (by omega)⟩
              · have d2 : decide (x2 < 1) = false := decide_eq_false g2
                by_cases g3 : c.bound < x2
                · have HCF : Hid (chkB c.bound L9 (x1, x2) = false) := Lib.hid (by rw [HCK.out, decide_eq_false (show ¬ x2 ≤ c.bound by omega)]; simp)
                  have d3 : decide (c.bound < x2) = true := decide_eq_true g3
                  gi_wp2
                  refine wp_region_extR (by kernel_rfl) (by kernel_rfl) (by kernel_rfl) ?_
                  repeat (go_big_quiet_step ((first | (go_at_call 102; exact Calls.ext_of_same (pliteral_lit _ _ HLB.out _)) | (go_at_call 74; exact Calls.ext_of_same (abs_any _ HAB.out _)))))
                  refine wpQuiet_nil ?_
                  intro w9 hw'
                  obtain ⟨e9, he9⟩ := hw'
                  have hb9 := e9.below
                  rw [← he9] at hb9
                  clear he9 e9
                  try dsimp only
                  have HB9 := Lib.hid hb9
                  have u1 := (HQ1.out.below hb9).cell 0
                  have v1 := (HQ1.out.below hb9).free 0
                  clear hb9
                  gi_wp2
                  exact ⟨(keepsO_below HB9.out).trans (KeepsOthers.setCell _ _ _), ⟨(HQ1.out.below HB9.out).set 0 _, rfl, by rw [HX.out, HCF.out]⟩, (HB.out.on HB9.out).set _ _ _ (by omega)⟩
                · have d3 : decide (c.bound < x2) = false := decide_eq_false g3
                  have HCT : Hid (chkB c.bound L9 (x1, x2) = true) := Lib.hid (by rw [HCK.out, decide_eq_true (show L9 < (x1.natAbs : Int) by omega), decide_eq_true (show 1 ≤ x2 by omega), decide_eq_true (show x2 ≤ c.bound by omega)]; rfl)
                  gi_wp2
                  refine wp_region_extR (by kernel_rfl) (by kernel_rfl) (by kernel_rfl) ?_
                  repeat (go_big_quiet_step ((first | (go_at_call 102; exact Calls.ext_of_same (pliteral_lit _ _ HLB.out _)) | (go_at_call 74; exact Calls.ext_of_same (abs_any _ HAB.out _)))))
                  refine wpQuiet_nil ?_
                  intro w9 hw'
                  obtain ⟨e9, he9⟩ := hw'
                  have hb9 := e9.below
                  rw [← he9] at hb9
                  clear he9 e9
                  try dsimp only
                  have HB9 := Lib.hid hb9
                  have u2 := (HQ2.out.below hb9).cell 0
                  have u3 := (HQ3.out.below hb9).cell 0
                  have v2 := (HQ2.out.below hb9).free 0
                  have v3 := (HQ3.out.below hb9).free 0
                  have hs9 := hb9.size
                  have hsW := HB.out.below.size
                  have hsV := HB.out.size
                  clear hb9
                  gi_wp2_with (refine ⟨trivial, ?_⟩; gi_at_call 74; refine (CallsIn.inRound l (callsIn_wide.2 (abs_any _ HAB.out _))).mono ?_; rintro e w2 ⟨rfl, rfl⟩)
                  have hB9 := HB9.out
                  refine ⟨((keepsO_below hB9).trans (KeepsOthers.setCell _ _ _)).trans (KeepsOthers.setCell _ _ _), ((Lim.of_below hB9 (by omega)).trans (Lim.setCell _ (.inl (by simp)))).trans (Lim.setCell _ (.inl (by simp))), ⟨by rw [HX.out, HCT.out], ?_, ?_, ?_, ?_⟩, ?_⟩
                  · exact ((HQ0.out.below hB9).setOther _ _ (by omega)).setOther _ _ (by omega)
                  · exact ((HQ1.out.below hB9).setOther _ _ (by omega)).setOther _ _ (by omega)
                  · rw [HS1.out]
                    exact ((HQ2.out.below hB9).set 0 _).setOther _ _ (by omega)
                  · rw [HS2.out]
                    exact ((HQ3.out.below hB9).setOther _ _ (by omega)).set 0 _
                  · exact ((HB.out.on hB9).set _ _ _ (by omega)).set _ _ _ (by omega)
        case done =>
          rintro D xs W hD hS ⟨⟨hok, k0, k1, k2, k3⟩, hB⟩ hK
          have q0 := k0.cell
          have q1 := k1.cell 0
          have v1 := k1.free 0
          have q3 := k3.cell 0
          have HB := Lib.hid hB
          have HK1 := Lib.hid k1
          have hsm := okF_small hok (by omega)
          have HOK := Lib.hid hok
          have HS := Lib.hid hS
          have hfin : Hid (∀ b : Bool, (decide (c.bound ≤ sumP (pvs xs)) || (decide (c.lits.length = 0) && decide (c.bound = 1))) = b → pbV c = b) := Lib.hid (fun b h => by rw [HPV.out, ← HS.out, HOK.out, Bool.true_and]; exact h)
          have HD := Lib.hid hK
          have hDs := hbw.size
          clear hS hok k0 k1 k2 k3 hB hst b0 b1 b2 b3 hK
          generalize hS9 : sumP (pvs xs) = S9 at *
          clear hS9
          by_cases g1 : c.bound ≤ S9
          · have HF : Hid (pbV c = true) := Lib.hid (hfin.out true (by rw [decide_eq_true g1]; rfl))
            clear hfin
            gi_wp2
            have hK' := (KeepsOthers.setCell W ⟨w.heap.size + 1, 0, none⟩ (.bool true)).same D _ HD.out rfl
            refine ⟨by simp, .inl ⟨_, _, rfl, run_takeDeferred hK', ?_⟩⟩
            have hc5 := cell_kept (World.cell?_setCell_same' W ⟨w.heap.size + 1, 0, none⟩ (.bool true) (by rw [q1]; rfl)) (grownBy_putObj' _ D (.deferred none)) (fun r e => by cases e; exact ⟨_, hK', rfl⟩)
            refine ⟨.bool true, ?_, by rw [HF.out], (HB.out.below.setCell (p := ⟨w.heap.size + 1, 0, none⟩) (by simp) _).trans (belowK_b (w := w) (Nat.le_refl _) _ D _ _ (by omega) hK' rfl rfl)⟩
            simp [results, Tryz.f43, go_sem, hc5]
          · by_cases g2 : c.lits.length = 0
            · by_cases g3 : c.bound = 1
              · have HF : Hid (pbV c = true) := Lib.hid (hfin.out true (by rw [decide_eq_true g2, decide_eq_true g3]; simp))
                have d2 : ((c.lits.length : Int) == 0) = true := beq_iff_eq.2 (by omega)
                have d3 : (c.bound == 1) = true := by simp [g3]
                clear hfin g2 g3
                gi_wp2
                have hK' := (KeepsOthers.setCell W ⟨w.heap.size + 1, 0, none⟩ (.bool true)).same D _ HD.out rfl
                refine ⟨by simp, .inl ⟨_, _, rfl, run_takeDeferred hK', ?_⟩⟩
                have hc5 := cell_kept (World.cell?_setCell_same' W ⟨w.heap.size + 1, 0, none⟩ (.bool true) (by rw [q1]; rfl)) (grownBy_putObj' _ D (.deferred none)) (fun r e => by cases e; exact ⟨_, hK', rfl⟩)
                refine ⟨.bool true, ?_, by rw [HF.out], (HB.out.below.setCell (p := ⟨w.heap.size + 1, 0, none⟩) (by simp) _).trans (belowK_b (w := w) (Nat.le_refl _) _ D _ _ (by omega) hK' rfl rfl)⟩
                simp [results, Tryz.f43, go_sem, hc5]
              · have HF : Hid (pbV c = false) := Lib.hid (hfin.out false (by rw [decide_eq_false g1, decide_eq_false g3]; simp))
                have d2 : ((c.lits.length : Int) == 0) = true := beq_iff_eq.2 (by omega)
                have d3 : (c.bound == 1) = false := by simp [g3]
                clear hfin g2 g3
                gi_wp2
                have hK' := (KeepsOthers.setCell W ⟨w.heap.size + 1, 0, none⟩ (.bool false)).same D _ HD.out rfl
                refine ⟨by simp, .inl ⟨_, _, rfl, run_takeDeferred hK', ?_⟩⟩
                have hc5 := cell_kept (World.cell?_setCell_same' W ⟨w.heap.size + 1, 0, none⟩ (.bool false) (by rw [q1]; rfl)) (grownBy_putObj' _ D (.deferred none)) (fun r e => by cases e; exact ⟨_, hK', rfl⟩)
                refine ⟨.bool false, ?_, by rw [HF.out], (HB.out.below.setCell (p := ⟨w.heap.size + 1, 0, none⟩) (by simp) _).trans (belowK_b (w := w) (Nat.le_refl _) _ D _ _ (by omega) hK' rfl rfl)⟩
                simp [results, Tryz.f43, go_sem, hc5]
            · have HF : Hid (pbV c = false) := Lib.hid (hfin.out false (by rw [decide_eq_false g1, decide_eq_false g2]; simp))
              have d2 : ((c.lits.length : Int) == 0) = false := beq_eq_false_iff_ne.2 (by omega)
              clear hfin g2
              gi_wp2
              have hK' := (KeepsOthers.setCell W ⟨w.heap.size + 1, 0, none⟩ (.bool false)).same D _ HD.out rfl
              refine ⟨by simp, .inl ⟨_, _, rfl, run_takeDeferred hK', ?_⟩⟩
              have hc5 := cell_kept (World.cell?_setCell_same' W ⟨w.heap.size + 1, 0, none⟩ (.bool false) (by rw [q1]; rfl)) (grownBy_putObj' _ D (.deferred none)) (fun r e => by cases e; exact ⟨_, hK', rfl⟩)
              refine ⟨.bool false, ?_, by rw [HF.out], (HB.out.below.setCell (p := ⟨w.heap.size + 1, 0, none⟩) (by simp) _).trans (belowK_b (w := w) (Nat.le_refl _) _ D _ _ (by omega) hK' rfl rfl)⟩
              simp [results, Tryz.f43, go_sem, hc5]
        case stop =>
          rintro D e pre W hD ⟨k, hk, hS⟩ ⟨⟨bRW, rfl, hok⟩, hB⟩ hK
          have HF : Hid (pbV c = false) := Lib.hid (by
            rw [HPV.out, ← List.take_append_drop k (c.lits.zip c.coefs), ← hS, okF_false _ _ _ hok]; rfl)
          gi_wp2
          refine ⟨by simp, .inl ⟨_, _, rfl, run_takeDeferred hK, ?_⟩⟩
          have hc5 := cell_kept (bRW.cell 0) (grownBy_putObj' _ D (.deferred none)) (fun r e => by cases e; exact ⟨_, hK, rfl⟩)
          have hDs := hbw.size
          refine ⟨.bool false, ?_, by rw [HF.out], hB.below.trans (belowK_b (w := w) (Nat.le_refl _) W D _ _ (by omega) hK rfl rfl)⟩
          simp [results, Tryz.f43, go_sem, hc5]
  · have HF : Hid (pbV c = false) := Lib.hid (by unfold pbV; rw [decide_eq_false h1]; rfl)
    have h1' : ((c.lits.length : Int) != c.coefs.length) = true := by simp; omega
    clear h1
    go_enter Tryz.func43, Tryz.ntmps43
    go_wp2
    exact bodyPost_ret (v := .bool false) (by simp [results, Tryz.f43, go_sem]) rfl ⟨ret_bool HF.out.symm, by (repeat first | exact Below.refl _ _ | (refine Below.setCell ?_ (by first | omega | (simp; done) | (simp; omega)) _) | (refine bal ?_ _))⟩

end Go.Proofs.YtfhpfbakoiekpaaGreatDoor

/- pb.Holds, pb.Slack: their contracts. -/
namespace Go.Proofs.YtfhpfbakoiekpaaGreatDoor
open Go.RowKit Go.Shelf
attribute [local go_sem] Oper.semAt_some


/-- Where the loop is: the sum so far. -/
structure HSt (c : PBC) (H sb : Nat) (vl vk va : Value) (s0 : Int) (t : Int → Bool) (pre : List (PV c)) (W : World) : Prop where
  box : Blk W H [vl, vk, .int .i64 c.bound] 30
  abox : Blk W (H + 1) [va] 28
  sum : Blk W sb [.int .i64 (s0 + sumW t (pvs pre))] 3

theorem HSt.own {c : PBC} {H sb B : Nat} {vl vk va : Value} {s0 : Int} {t : Int → Bool} : OwnFrom B (fun pre W => HSt c H sb vl vk va s0 t pre W) := fun pre X Y row hs hg hrow => by
  have hr : ∀ r, row = some r → ∃ o : Obj, X.heap[r]? = some o ∧ o.isCells = false := fun r e => (hrow r e).2
  exact ⟨blk_ownP _ _ _ () X Y row hs.box hg hr, blk_ownP _ _ _ () X Y row hs.abox hg hr, blk_ownP _ _ _ () X Y row hs.sum hg hr⟩


end Go.Proofs.YtfhpfbakoiekpaaGreatDoor

/- ostlerref24.Norm, Clause (plain): the reference computes the same normal form. -/
namespace Go.Proofs.YtfhpfbakoiekpaaGreatDoor

/-! ### insert -/
/-- After k elements: the list, and whether v has been placed. -/
def insTo (l : List Int) (v : Int) : Nat → List Int × Bool
  | 0 => ([], false)
  | k + 1 =>
    ((if ix l k = v then (if v ≤ ix l k ∧ (insTo l v k).2 = false then (insTo l v k).1 ++ [v] else (insTo l v k).1) else (if v ≤ ix l k ∧ (insTo l v k).2 = false then (insTo l v k).1 ++ [v] else (insTo l v k).1) ++ [ix l k]),
     (insTo l v k).2 || decide (v ≤ ix l k))

def insR (l : List Int) (v : Int) : List Int := if (insTo l v l.length).2 then (insTo l v l.length).1 else (insTo l v l.length).1 ++ [v]

theorem insK_app {v : Int} : ∀ {t s : List Int}, (∀ y ∈ t, y < v) → insK v (t ++ s) = t ++ insK v s
  | [], s, _ => rfl
  | y :: t, s, h => by
    have h1 := h y (.head _)
    show insK v (y :: (t ++ s)) = y :: (t ++ insK v s)
    rw [← insK_app (t := t) (s := s) fun z hz => h z (.tail _ hz)]
    show (if v < y then v :: y :: (t ++ s) else if v = y then y :: (t ++ s) else y :: insK v (t ++ s)) = _
    rw [if_neg (by omega), if_neg (by omega)]

theorem insK_snoc {v x : Int} : ∀ {t : List Int}, (∃ y ∈ t, v ≤ y) → insK v (t ++ [x]) = insK v t ++ [x]
  | [], ⟨y, hy, _⟩ => by simp at hy
  | z :: t, ⟨y, hy, h⟩ => by
    show insK v (z :: (t ++ [x])) = insK v (z :: t) ++ [x]
    unfold insK
    by_cases h1 : v < z
    · rw [if_pos h1, if_pos h1]; rfl
    · rw [if_neg h1, if_neg h1]
      by_cases h2 : v = z
      · rw [if_pos h2, if_pos h2]; rfl
      · rw [if_neg h2, if_neg h2]
        have hy' : y ∈ t := by
          rcases List.mem_cons.1 hy with rfl | hy
          · omega
          · exact hy
        rw [insK_snoc ⟨y, hy', h⟩]; rfl

theorem insTo_is {l : List Int} (hs : l.Pairwise (· < ·)) (v : Int) : ∀ k, k ≤ l.length →
    ((∃ y ∈ l.take k, v ≤ y) → insTo l v k = (insK v (l.take k), true)) ∧ ((∀ y ∈ l.take k, y < v) → insTo l v k = (l.take k, false))
  | 0, _ => ⟨fun ⟨y, hy, _⟩ => by simp at hy, fun _ => rfl⟩
  | k + 1, hk => by
    obtain ⟨i1, i2⟩ := insTo_is hs v k (by omega)
    have e : l.take (k + 1) = l.take k ++ [ix l k] := by rw [ix_get (by omega)]; exact List.take_succ_eq_append_getElem (by omega)
    have hlt : ∀ y ∈ l.take k, y < ix l k := fun y hy => by
      have := hs.sublist (List.take_sublist (k + 1) l)
      rw [e] at this
      exact (List.pairwise_append.1 this).2.2 _ hy _ (by simp)
    by_cases hP : ∃ y ∈ l.take k, v ≤ y
    · have hx : v < ix l k := by obtain ⟨y, hy, h⟩ := hP; have := hlt y hy; omega
      refine ⟨fun _ => ?_, fun h => ?_⟩
      · unfold insTo
        rw [i1 hP, e, insK_snoc hP, if_neg (by omega), if_neg (by simp)]
        simp
      · obtain ⟨y, hy, h1⟩ := hP
        have := h y (by rw [e]; exact List.mem_append_left _ hy)
        omega
    · have hall : ∀ y ∈ l.take k, y < v := fun y hy => by
        rcases Int.lt_or_le y v with h | h
        · exact h
        · exact absurd ⟨y, hy, h⟩ hP
      unfold insTo
      rw [i2 hall, e, insK_app hall]
      by_cases hv : v ≤ ix l k
      · refine ⟨fun _ => ?_, fun h => ?_⟩
        · show ((if ix l k = v then (if v ≤ ix l k ∧ false = false then l.take k ++ [v] else l.take k) else (if v ≤ ix l k ∧ false = false then l.take k ++ [v] else l.take k) ++ [ix l k]), false || decide (v ≤ ix l k)) = _
          by_cases h2 : ix l k = v
          · rw [if_pos h2, h2]; simp [insK]
          · have : v < ix l k := by omega
            rw [if_neg h2]
            simp [insK, this, hv]
        · have := h (ix l k) (by simp)
          omega
      · refine ⟨fun ⟨y, hy, h⟩ => ?_, fun _ => ?_⟩
        · rcases List.mem_append.1 hy with hy | hy
          · have := hall y hy; omega
          · obtain rfl : y = ix l k := by simpa using hy
            omega
        · show ((if ix l k = v then (if v ≤ ix l k ∧ false = false then l.take k ++ [v] else l.take k) else (if v ≤ ix l k ∧ false = false then l.take k ++ [v] else l.take k) ++ [ix l k]), false || decide (v ≤ ix l k)) = _
          rw [if_neg (show ¬ (v ≤ ix l k ∧ false = false) by omega), if_neg (by omega), decide_eq_false hv]
          rfl

theorem insR_is {l : List Int} (hs : l.Pairwise (· < ·)) (v : Int) : insR l v = insK v l := by
  obtain ⟨h1, h2⟩ := insTo_is hs v l.length (Nat.le_refl _)
  rw [List.take_length] at h1 h2
  unfold insR
  by_cases hP : ∃ y ∈ l, v ≤ y
  · rw [h1 hP]; rfl
  · have hall : ∀ y ∈ l, y < v := fun y hy => by
      rcases Int.lt_or_le y v with h | h
      · exact h
      · exact absurd ⟨y, hy, h⟩ hP
    rw [h2 hall]
    have := insK_app (s := []) hall
    rw [List.append_nil] at this
    rw [this]; rfl

theorem insTo_len (l : List Int) (v : Int) : ∀ k, (insTo l v k).1.length ≤ 2 * k
  | 0 => by simp [insTo]
  | k + 1 => by
    have := insTo_len l v k
    unfold insTo
    split <;> split <;> simp <;> omega

/-! ### The variables -/
def varsTo (L : List Int) : Nat → List Int
  | 0 => []
  | k + 1 => insK ((ix L k).natAbs : Int) (varsTo L k)

theorem varsTo_sorted (L : List Int) : ∀ k, (varsTo L k).Pairwise (· < ·)
  | 0 => by simp [varsTo]
  | k + 1 => insK_sorted (varsTo_sorted L k)

theorem varsTo_mem {L : List Int} {x : Int} : ∀ k, x ∈ varsTo L k ↔ ∃ j, j < k ∧ ((ix L j).natAbs : Int) = x
  | 0 => by simp [varsTo]
  | k + 1 => by
    unfold varsTo
    rw [mem_insK, varsTo_mem k]
    constructor
    · rintro (h | ⟨j, hj, e⟩)
      · exact ⟨k, by omega, h.symm⟩
      · exact ⟨j, by omega, e⟩
    · rintro ⟨j, hj, e⟩
      rcases Nat.lt_or_ge j k with h | h
      · exact .inr ⟨j, h, e⟩
      · obtain rfl : j = k := by omega
        exact .inl e.symm

theorem insK_len (v : Int) : ∀ l : List Int, (insK v l).length ≤ l.length + 1
  | [] => by simp [insK]
  | x :: l => by
    have := insK_len v l
    unfold insK
    split
    · simp
    · split <;> simp <;> omega

theorem varsTo_len (L : List Int) : ∀ k, (varsTo L k).length ≤ k
  | 0 => by simp [varsTo]
  | k + 1 => by
    have := varsTo_len L k
    have := insK_len ((ix L k).natAbs : Int) (varsTo L k)
    unfold varsTo
    omega

theorem varsTo_keys (L : List Int) : varsTo L L.length = keysOf L :=
  sorted_eqP (varsTo_sorted L _) (keys_sorted L) fun x => by
    rw [varsTo_mem, mem_keys]
    constructor
    · rintro ⟨j, hj, e⟩
      exact ⟨_, mem_ix_iff.2 ⟨j, hj, rfl⟩, e⟩
    · rintro ⟨l, hl, e⟩
      obtain ⟨j, hj, rfl⟩ := mem_ix_iff.1 hl
      exact ⟨j, hj, e⟩

/-! ### The bound -/
/-- What variable v takes from the bound in the first k literals. -/
def nTo (L K : List Int) (v : Int) : Nat → Int
  | 0 => 0
  | k + 1 => nTo L K v k + (if ix L k = -v then ix K k else 0)

theorem nTo_bound {L K : List Int} {v : Int} : ∀ (i : Nat), (∀ j, j < i → -16777216 ≤ ix K j ∧ ix K j ≤ 16777216) → -(16777216 * (i : Int)) ≤ nTo L K v i ∧ nTo L K v i ≤ 16777216 * (i : Int)
  | 0, _ => by simp [nTo]
  | i + 1, h => by
    have ih := nTo_bound (L := L) (K := K) (v := v) i fun j hj => h j (by omega)
    have hi := h i (by omega)
    unfold nTo
    push_cast
    split <;> omega

theorem sum_nTo {L K V : List Int} (hn : V.Nodup) (hpos : ∀ v ∈ V, 0 < v) : ∀ k, (∀ j, j < k → ((ix L j).natAbs : Int) ∈ V) → sumI (fun v => nTo L K v k) V = negTo L K k
  | 0, _ => sumI_zero V
  | k + 1, h => by
    have ih := sum_nTo hn hpos (K := K) k fun j hj => h j (by omega)
    have hk := h k (by omega)
    show sumI (fun v => nTo L K v k + (if ix L k = -v then ix K k else 0)) V = negTo L K k + _
    rw [sumI_add, ih]
    congr 1
    by_cases hl : ix L k < 0
    · rw [if_pos hl]
      refine (sumI_congr (g := fun v => if v = ((ix L k).natAbs : Int) then ix K k else 0) fun v hv => ?_).trans (sumI_delta (ix K k) ((ix L k).natAbs : Int) V hn hk)
      have := hpos v hv
      by_cases e : v = ((ix L k).natAbs : Int)
      · rw [if_pos (show ix L k = -v by omega), if_pos e]
      · rw [if_neg (show ¬ ix L k = -v by omega), if_neg e]
    · rw [if_neg hl]
      refine (sumI_congr (g := fun _ => 0) fun v hv => ?_).trans (sumI_zero V)
      have := hpos v hv
      rw [if_neg (show ¬ ix L k = -v by omega)]

/-- The bound behind the first i variables. -/
def bndTo (L K : List Int) (B : Int) (V : List Int) : Nat → Int
  | 0 => B
  | i + 1 => bndTo L K B V i - nTo L K (ix V i) L.length - lowI (byTo L K (ix V i) L.length)

theorem bndTo_sum {L K : List Int} {B : Int} {V : List Int} : ∀ i, i ≤ V.length → bndTo L K B V i = B - sumI (fun v => nTo L K v L.length) (V.take i) - sumI (fun v => lowI (byTo L K v L.length)) (V.take i)
  | 0, _ => by simp [bndTo, sumI]
  | i + 1, h => by
    have ih := bndTo_sum (L := L) (K := K) (B := B) (V := V) i (by omega)
    have e : V.take (i + 1) = V.take i ++ [ix V i] := by rw [ix_get (by omega)]; exact List.take_succ_eq_append_getElem (by omega)
    unfold bndTo
    rw [ih, e, sumI_snoc, sumI_snoc]
    omega

theorem bndTo_all {L K : List Int} {B : Int} (hnz : ∀ j, j < L.length → ix L j ≠ 0) :
    bndTo L K B (keysOf L) (keysOf L).length = B - negTo L K L.length - sumI (fun v => lowI (byTo L K v L.length)) (keysOf L) := by
  rw [bndTo_sum _ (Nat.le_refl _), List.take_length, sum_nTo (sorted_nodup (keys_sorted L)) (keys_pos hnz) L.length fun j hj => mem_keys.2 ⟨_, mem_ix_iff.2 ⟨j, hj, rfl⟩, rfl⟩]

/-- The variables with a coefficient, of the first i. -/
def fltTo (L K V : List Int) (i : Nat) : List Int := (V.take i).filter fun v => byTo L K v L.length != 0

theorem fltTo_succ {L K V : List Int} {i : Nat} (h : i < V.length) : fltTo L K V (i + 1) = fltTo L K V i ++ (if byTo L K (ix V i) L.length = 0 then [] else [ix V i]) := by
  have e : V.take (i + 1) = V.take i ++ [ix V i] := by rw [ix_get (by omega)]; exact List.take_succ_eq_append_getElem (by omega)
  unfold fltTo
  rw [e, List.filter_append]
  congr 1
  by_cases h0 : byTo L K (ix V i) L.length = 0
  · rw [if_pos h0]; simp [h0]
  · rw [if_neg h0]; simp [h0]

/-! ### Clause -/
/-- Without repetition, in the order of the first occurrences. -/
def onceTo (L : List Int) : Nat → List Int
  | 0 => []
  | k + 1 => if ix L k ∈ onceTo L k then onceTo L k else onceTo L k ++ [ix L k]

theorem onceTo_mem {L : List Int} {x : Int} : ∀ k, x ∈ onceTo L k ↔ ∃ j, j < k ∧ ix L j = x
  | 0 => by simp [onceTo]
  | k + 1 => by
    have ih := onceTo_mem (L := L) (x := x) k
    unfold onceTo
    split
    · rename_i h
      rw [ih]
      constructor
      · rintro ⟨j, hj, e⟩; exact ⟨j, by omega, e⟩
      · rintro ⟨j, hj, e⟩
        rcases Nat.lt_or_ge j k with h' | h'
        · exact ⟨j, h', e⟩
        · obtain rfl : j = k := by omega
          subst e
          exact ih.1 h
    · rw [List.mem_append, ih, List.mem_singleton]
      constructor
      · rintro (⟨j, hj, e⟩ | e)
        · exact ⟨j, by omega, e⟩
        · exact ⟨k, by omega, e.symm⟩
      · rintro ⟨j, hj, e⟩
        rcases Nat.lt_or_ge j k with h' | h'
        · exact .inl ⟨j, h', e⟩
        · obtain rfl : j = k := by omega
          exact .inr e.symm

theorem onceTo_nodup (L : List Int) : ∀ k, (onceTo L k).Nodup
  | 0 => by simp [onceTo]
  | k + 1 => by
    have ih := onceTo_nodup L k
    unfold onceTo
    split
    · exact ih
    · rename_i h
      exact List.nodup_append.2 ⟨ih, by simp, fun x hx y hy => by
        obtain rfl : y = ix L k := by simpa using hy
        rintro rfl
        exact h hx⟩

theorem onceTo_len (L : List Int) : ∀ k, (onceTo L k).length ≤ k
  | 0 => by simp [onceTo]
  | k + 1 => by
    have := onceTo_len L k
    unfold onceTo
    split <;> simp <;> omega

def refClause (L : List Int) : PBC × Int := normP (onceTo L L.length) (ones (onceTo L L.length).length) 1

theorem negTo_ones {S : List Int} : ∀ (i : Nat), i ≤ S.length → negTo S (ones S.length) i = sumI (fun x => if x < 0 then 1 else 0) (S.take i)
  | 0, _ => by simp [negTo, sumI]
  | i + 1, h => by
    have e : S.take (i + 1) = S.take i ++ [ix S i] := by rw [ix_get (by omega)]; exact List.take_succ_eq_append_getElem (by omega)
    unfold negTo
    rw [negTo_ones i (by omega), e, sumI_snoc, ones_ix (by omega)]

theorem normC_congr {f g : Int → Int} {V : List Int} {bd : Int} (h : ∀ v ∈ V, f v = g v) : normC f V bd = normC g V bd := by
  unfold normC
  rw [sumI_congr (f := fun v => minI (absI (f v)) bd) (g := fun v => minI (absI (g v)) bd) fun v hv => by rw [h v hv],
    List.map_congr_left (f := litOf f) (g := litOf g) fun v hv => by unfold litOf; rw [h v hv],
    List.map_congr_left (f := fun v => minI (absI (f v)) bd) (g := fun v => minI (absI (g v)) bd) fun v hv => by rw [h v hv]]

theorem normP_fine {U : List Int} (h : ∀ x ∈ U, plitB x = true) (B : Int) : normP U (ones U.length) B = if 65536 < U.length ∨ B < -1099511627776 ∨ 1099511627776 < B then (⟨[], [], 0⟩, 2) else
    normC (fun v => byTo U (ones U.length) v U.length) ((keysOf U).filter fun v => byTo U (ones U.length) v U.length != 0) (B - negTo U (ones U.length) U.length - sumI (fun v => lowI (byTo U (ones U.length) v U.length)) (keysOf U)) := by
  have hp : allR U.length (pokAt U (ones U.length)) = true := allR_true fun j hj => by
    unfold pokAt
    rw [h _ (mem_ix_iff.2 ⟨j, hj, rfl⟩), ones_ix hj]; decide
  unfold normP
  rw [hp]
  by_cases hc : 65536 < U.length ∨ B < -1099511627776 ∨ 1099511627776 < B
  · rw [if_pos (.inr hc), if_pos hc]
  · rw [if_neg (fun h' => h'.elim (fun h1 => h1 (by simp [ones])) hc), if_neg hc, if_neg (by simp)]

/-- The normal form with ones asks nothing of the order. -/
theorem normP_perm {S T : List Int} (hs : S.Nodup) (ht : T.Nodup) (hm : ∀ x, x ∈ S ↔ x ∈ T) (hp : ∀ x ∈ S, plitB x = true) (B : Int) : normP S (ones S.length) B = normP T (ones T.length) B := by
  have hperm := nodup_perm hs ht hm
  have hl := hperm.length_eq
  have hpz : ∀ x ∈ S, x ≠ 0 := fun x hx => by have := hp x hx; unfold plitB at this; rw [decide_eq_true_eq] at this; exact this.1
  have hk : keysOf S = keysOf T := sorted_eqP (keys_sorted S) (keys_sorted T) fun x => by
    rw [mem_keys, mem_keys]
    exact ⟨fun ⟨l, h, e⟩ => ⟨l, (hm l).1 h, e⟩, fun ⟨l, h, e⟩ => ⟨l, (hm l).2 h, e⟩⟩
  have hpos : ∀ v ∈ keysOf S, 0 < v := keys_pos fun j hj => hpz _ (mem_ix_iff.2 ⟨j, hj, rfl⟩)
  have hby : ∀ v ∈ keysOf S, byTo S (ones S.length) v S.length = byTo T (ones T.length) v T.length := fun v hv => by
    have h0 := hpos v hv
    rw [byTo_set hs h0, byTo_set ht h0]
    simp only [hm]
  have hneg : negTo S (ones S.length) S.length = negTo T (ones T.length) T.length := by
    rw [negTo_ones _ (Nat.le_refl _), negTo_ones _ (Nat.le_refl _), List.take_length, List.take_length]
    exact sumI_perm hperm
  rw [normP_fine hp, normP_fine fun x hx => hp x ((hm x).2 hx), hl]
  by_cases hc : 65536 < T.length ∨ B < -1099511627776 ∨ 1099511627776 < B
  · rw [if_pos hc, if_pos hc]
  · rw [if_neg hc, if_neg hc, ← hl, ← hk, hl, hneg.symm.trans (by rw [hl])]
    rw [hl] at hby hneg
    have hf : (keysOf S).filter (fun v => byTo S (ones T.length) v T.length != 0) = (keysOf S).filter (fun v => byTo T (ones T.length) v T.length != 0) := List.filter_congr fun v hv => by rw [hby v hv]
    have hs2 : sumI (fun v => lowI (byTo S (ones T.length) v T.length)) (keysOf S) = sumI (fun v => lowI (byTo T (ones T.length) v T.length)) (keysOf S) := sumI_congr fun v hv => by rw [hby v hv]
    rw [hf, hs2, normC_congr fun v hv => hby v (List.mem_filter.1 hv).1]

theorem refClause_is {L : List Int} (hp : ∀ x ∈ L, plitB x = true) : refClause L = clauseP L := by
  unfold refClause clauseP
  refine normP_perm (onceTo_nodup L _) (sorted_nodup (setL_sorted L)) (fun x => ?_) (fun x hx => ?_) 1
  · rw [onceTo_mem, mem_setL, mem_ix_iff]
  · obtain ⟨j, hj, rfl⟩ := (onceTo_mem _).1 hx
    exact hp _ (mem_ix_iff.2 ⟨j, hj, rfl⟩)

end Go.Proofs.YtfhpfbakoiekpaaGreatDoor

/- 'for k, v := range m' over a map that is known as a function (MapIs): what is left to come, and the step. -/
namespace Go.Proofs.YtfhpfbakoiekpaaGreatDoor
open Go.RowKit Go.MapKept
open Go.ChangeMaps (setBlock)

/-- The map in block b holds g; block r is an iterator over it; left says which keys are still to come; cnt: how many. -/
def RangeIs {κ : Type} (kv : κ → Value) (w : World) (b r : Nat) (g : κ → Option Value) (left : κ → Bool) (cnt : Nat) : Prop :=
  ∃ es clock since seen c0, w.heap[b]? = some (.map es clock) ∧ Stamped es clock ∧ (∀ x ∈ es.toList, ∃ k, x.key = kv k) ∧ (∀ k v, g k = some v ↔ ∃ x ∈ es.toList, x.key = kv k ∧ x.val = v) ∧
    w.heap[r]? = some (.mapIter (some b) since seen c0) ∧ (∀ x ∈ es.toList, x.born < since) ∧ (leftOf es seen).size = cnt ∧
    (∀ x ∈ es.toList, ∀ k, x.key = kv k → left k = !seen.contains x.born) ∧ (∀ k, left k = true → ∃ v, g k = some v) ∧ since ≤ c0 ∧ since ≤ clock

section
variable {κ : Type} {kv : κ → Value} {P : Program} {w : World} {b r cnt : Nat} {g : κ → Option Value} {left : κ → Bool} {t kt et : TypeId}

theorem RangeIs.map (h : RangeIs kv w b r g left cnt) : MapIs kv w b g := by
  obtain ⟨es, clock, since, seen, c0, hb, hs, hk, hg, _⟩ := h
  exact ⟨es, clock, hb, hs, hk, hg⟩

theorem RangeIs.lt (h : RangeIs kv w b r g left cnt) : r < w.heap.size := by
  obtain ⟨es, clock, since, seen, c0, _, _, _, _, hr, _⟩ := h
  exact (Array.getElem?_eq_some_iff.1 hr).1

theorem RangeIs.same {w' : World} (h : RangeIs kv w b r g left cnt) (hb : w'.heap[b]? = w.heap[b]?) (hr : w'.heap[r]? = w.heap[r]?) : RangeIs kv w' b r g left cnt := by
  obtain ⟨es, clock, since, seen, c0, h1, h2, h3, h4, h5, rest⟩ := h
  exact ⟨es, clock, since, seen, c0, hb.trans h1, h2, h3, h4, hr.trans h5, rest⟩

theorem RangeIs.grown {w' : World} {row : Option Nat} (h : RangeIs kv w b r g left cnt) (hg : w.grownBy w' row) (hb : some b ≠ row) (hr : some r ≠ row) : RangeIs kv w' b r g left cnt :=
  h.same (hg.block b h.map.lt hb) (hg.block r h.lt hr)

theorem RangeIs.alloc (h : RangeIs kv w b r g left cnt) (o : Obj) : RangeIs kv (w.alloc o) b r g left cnt := h.same (Below.heap_alloc _ _ _ h.map.lt) (Below.heap_alloc _ _ _ h.lt)

theorem RangeIs.left_eq (h : RangeIs kv w b r g left cnt) : w.rangeLeft b r = cnt := by
  obtain ⟨es, clock, since, seen, c0, hb, _, _, _, hr, _, hc, _⟩ := h
  simp only [World.rangeLeft, hb, hr]
  exact hc

theorem MapIs.range (h : MapIs kv w b g) (ht : P.underlying t = some (.map kt et)) :
    ∃ w' cnt, (Instr.range t (.map (some b))).run P w = .ok (.pointer (some ⟨w.heap.size, 0, none⟩)) w' ∧ RangeIs kv w' b w.heap.size g (fun k => (g k).isSome) cnt ∧ w.grownBy w' none ∧ w'.heap.size = w.heap.size + 1 := by
  have hlt := h.lt
  obtain ⟨es, clock, hb, hs, hk, hg⟩ := h
  have hst := (stamped_iff es clock).1 hs
  refine ⟨_, _, run_range_map w t kt et b es clock ht hb, ⟨es, clock, clock, #[], clock, ((MapKept.heap_alloc w _).2 b hlt).trans hb, hs, hk, hg, (MapKept.heap_alloc w _).1, hst.1, rfl, ?_, ?_, Nat.le_refl _, Nat.le_refl _⟩, World.grownBy_alloc w _ none, by simp⟩
  · intro x hx k e
    have : g k = some x.val := (hg k _).2 ⟨x, hx, e, rfl⟩
    simp [this]
  · intro k hk'
    exact Option.isSome_iff_exists.1 hk'

/-- The step. -/
theorem RangeIs.next [DecidableEq κ] (h : RangeIs kv w b r g left cnt) (hinj : ∀ a c, kv a = kv c → a = c) (ty : TypeId) :
    (cnt = 0 ∧ (∀ k, left k = false) ∧ (Instr.next (.pointer (some ⟨r, 0, none⟩)) false ty).run P w = .ok (.tuple #[.bool false]) w) ∨
    ∃ k v w' cnt', left k = true ∧ g k = some v ∧ (Instr.next (.pointer (some ⟨r, 0, none⟩)) false ty).run P w = .ok (.tuple #[.bool true, kv k, v]) w' ∧
      RangeIs kv w' b r g (fun x => left x && !decide (x = k)) cnt' ∧ cnt' < cnt ∧ w.grownBy w' (some r) ∧ w'.heap.size = w.heap.size ∧ (Instr.entry (.pointer (some ⟨r, 0, none⟩))).run P w' = .ok (.tuple #[kv k, v]) w' := by
  obtain ⟨es, clock, since, seen, c0, hb, hs, hks, hg, hr, hold, rfl, hl1, hl2, hsc, hsk⟩ := h
  have hne : r ≠ b := by rintro rfl; rw [hb] at hr; cases hr
  have hst := (stamped_iff es clock).1 hs
  rcases run_next_at (P := P) w ty r b since c0 seen es clock hr hb hold hsc with ⟨h0, hrun⟩ | ⟨e, he, w1, hal, hrun⟩
  · refine Or.inl ⟨h0, fun k => ?_, hrun⟩
    cases hk : left k
    · rfl
    · obtain ⟨v, hv⟩ := hl2 k hk
      obtain ⟨x, hx, e, -⟩ := (hg k v).1 hv
      rw [hl1 x hx k e, all_seen es seen h0 x hx] at hk
      cases hk
  · obtain ⟨hem, hes⟩ := mem_left he
    obtain ⟨k, hk⟩ := hks e hem
    have hr1 : w1.heap[r]? = some (.mapIter (some b) since seen c0) := by rcases hal with rfl | rfl <;> exact hr
    have hb1 : w1.heap[b]? = some (.map es clock) := by rcases hal with rfl | rfl <;> exact hb
    have hset := heap_set (o' := .mapIter (some b) since (seen.push e.born) clock) hr1
    have hb' : (setBlock w1 r (.mapIter (some b) since (seen.push e.born) clock)).heap[b]? = some (.map es clock) := (hset.2 b (fun e1 => hne e1.symm)).trans hb1
    rw [hk] at hrun
    refine Or.inr ⟨k, e.val, _, _, by rw [hl1 e hem k hk, hes]; rfl, (hg k _).2 ⟨e, hem, hk, rfl⟩, hrun,
      ⟨es, clock, since, seen.push e.born, clock, hb', hs, hks, hg, hset.1, hold, rfl, fun x hx k' hk' => ?_, fun k' h' => hl2 k' (by simp at h'; exact h'.1), hsk, hsk⟩, left_shrinks es seen e he, ?_, ?_, ?_⟩
    · show (left k' && !decide (k' = k)) = _
      rw [hl1 x hx k' hk', contains_push]
      by_cases hxe : x.born = e.born
      · obtain rfl := born_inj hst.2.1 hx hem hxe
        have : k' = k := hinj _ _ (hk'.symm.trans hk)
        subst this
        simp
      · have : k' ≠ k := fun e2 => by
          subst e2
          have e3 := entry_eq_of_key hst.2.2 hx hem (hk'.trans hk.symm)
          exact hxe (by rw [e3])
        simp [this, hxe]
    · rcases hal with rfl | rfl <;> exact ⟨rfl, rfl, rfl, by simp [setBlock], fun i _ hi => hset.2 i (fun e1 => hi (by rw [e1]))⟩
    · rcases hal with rfl | rfl <;> simp [setBlock]
    · have := run_entry_at (P := P) _ r b since seen es clock e hset.1 hb' hem hst.2.1
      rw [hk] at this
      exact this
end

section
variable {κ : Type} {kv : κ → Value} {P : Program} {w : World} {ops : Array Oper} {rest : List Oper} {o : Oper} {a : Act} {Q : Exit → Act → World → Prop}

theorem wpList_mrange (g : κ → Option Value) (b : Nat) (t kt et : TypeId) (ht : P.underlying t = some (.map kt et))
    (hg : o.guard = none) (m : Operand) (hop : o.op = Op.range t m) (hm : a.eval m = .map (some b)) (h : MapIs kv w b g)
    (hK : ∀ w' cnt, RangeIs kv w' b w.heap.size g (fun k => (g k).isSome) cnt → w.grownBy w' none → w'.heap.size = w.heap.size + 1 → wpList P ops Q rest (a.put o.dst (.pointer (some ⟨w.heap.size, 0, none⟩))) w') : wpList P ops Q (o :: rest) a w := by
  refine wpList_plain hg fun K' hK' => ?_
  obtain ⟨w', cnt, hrun, r1, r2, r3⟩ := h.range ht
  unfold Oper.wp
  simp [execOp, hop, hm, hrun, Result.andThen]
  exact hK' _ _ (hK w' cnt r1 r2 r3)

theorem wpList_mnext [DecidableEq κ] (g : κ → Option Value) (b r : Nat) (left : κ → Bool) (cnt : Nat) (hinj : ∀ a c, kv a = kv c → a = c)
    (hg : o.guard = none) (it : Operand) (hop : o.op = Op.next it false) (hit : a.eval it = .pointer (some ⟨r, 0, none⟩)) (h : RangeIs kv w b r g left cnt)
    (hDone : cnt = 0 → (∀ k, left k = false) → wpList P ops Q rest (a.put o.dst (.tuple #[.bool false])) w)
    (hMore : ∀ k v w' cnt', left k = true → g k = some v → RangeIs kv w' b r g (fun x => left x && !decide (x = k)) cnt' → cnt' < cnt → w.grownBy w' (some r) → w'.heap.size = w.heap.size →
      (Instr.entry (.pointer (some ⟨r, 0, none⟩))).run P w' = .ok (.tuple #[kv k, v]) w' → wpList P ops Q rest (a.put o.dst (.tuple #[.bool true, kv k, v])) w') : wpList P ops Q (o :: rest) a w := by
  refine wpList_plain hg fun K' hK' => ?_
  unfold Oper.wp
  rcases h.next (P := P) hinj o.type with ⟨h0, hl, hrun⟩ | ⟨k, v, w', cnt', hl, hv, hrun, hrg, hlt, hgr, hsz, hen⟩
  · simp [execOp, hop, hit, hrun, Result.andThen]
    exact hK' _ _ (hDone h0 hl)
  · simp [execOp, hop, hit, hrun, Result.andThen]
    exact hK' _ _ (hMore k v w' cnt' hl hv hrg hlt hgr hsz hen)
end

end Go.Proofs.YtfhpfbakoiekpaaGreatDoor
