/- My texts Units, Mkp, Mkl, StrA, Vars, merged. -/
import Derived.Test.YthclpkhaenaknaaGreatDoorM18
import Derived.Test.YthclpkhaenaknaaGreatDoorM13
import Derived.Test.YthclpkhaenaknaaGreatDoorM16
import Derived.Test.YthclpkhaenaknaaGreatDoorM17
import Derived.Test.YthclpkhaenaknaaGreatDoorM04
import Derived.Deep.AppendSrc

/- pb.Units: its contract; the plain law of clauses of which all literals but one are false. -/
namespace Go.Proofs.YthclpkhaenaknaaGreatDoor
open Go.RowKit
attribute [local go_sem] Oper.semAt_some

/-- The unknown literals that are heavier than s. -/
def uniL (a : List Int) (s : Int) (l : List (Int × Int)) : List Int := (l.filter fun x => decide (valI a x.1 = 0) && decide (s < x.2)).map (·.1)
def unitsC (c : PBC) (a : List Int) : List Int := if pbV c = true ∧ 0 ≤ slackC c a then uniL a (slackC c a) (c.lits.zip c.coefs) else []

theorem uniL_snoc (a : List Int) (s : Int) (l : List (Int × Int)) (x : Int × Int) : uniL a s (l ++ [x]) = if valI a x.1 = 0 ∧ s < x.2 then uniL a s l ++ [x.1] else uniL a s l := by
  unfold uniL
  rw [List.filter_append]
  by_cases h1 : valI a x.1 = 0 <;> by_cases h2 : s < x.2 <;> simp [h1, h2]

theorem uniL_len (a : List Int) (s : Int) (l : List (Int × Int)) : (uniL a s l).length ≤ l.length := by
  unfold uniL
  rw [List.length_map]
  exact List.length_filter_le _ _

theorem uniL_sub {a : List Int} {s : Int} {l : List (Int × Int)} {x : Int} (h : x ∈ uniL a s l) : ∃ y ∈ l, y.1 = x := by
  unfold uniL at h
  obtain ⟨y, hy, rfl⟩ := List.mem_map.1 h
  exact ⟨y, (List.mem_filter.1 hy).1, rfl⟩

theorem ownsRow_mono {base base' : Nat} {e : TypeId} {size n : Nat} {W : World} {v : Value} {xs : List Value} (h : W.ownsRow base e size v n xs) (hb : base' ≤ base) : W.ownsRow base' e size v n xs := by
  obtain ⟨h1, h2⟩ := h
  refine ⟨h1, ?_⟩
  rcases h2 with h2 | ⟨g, cap, cur, e, hg, r⟩
  · exact .inl h2
  · exact .inr ⟨g, cap, cur, e, Nat.le_trans hb hg, r⟩

/-- A row behind a box grows: at most the box turns below. -/
theorem appended_lim {W w1 : World} {n1 B : Nat} {t e : TypeId} {size : Nat} {v v' : Value} {k m : Nat} {xs ys : List Value} {tmp : Obj}
    (hv : Boxed W B t v) (hte : t ≠ e) (hrow : W.ownsRow n1 e size v k xs) (hn1 : n1 ≤ W.heap.size) (hB : B < n1)
    (hown' : w1.ownsRow n1 e size v' m ys) (hgrow : (W.alloc tmp).grownBy w1 v.ownBlock) :
    Boxed w1 B t v ∧ Boxed (w1.setCell ⟨B, 0, none⟩ v') B t v' ∧ (w1.setCell ⟨B, 0, none⟩ v').ownsRow n1 e size v' m ys ∧ KeepsOthers W (w1.setCell ⟨B, 0, none⟩ v') ∧ Lim n1 [B] W (w1.setCell ⟨B, 0, none⟩ v') := by
  have hB' : B ≤ n1 := Nat.le_of_lt hB
  obtain ⟨h1, h2, h3, h4, h5⟩ := hv.appended hte (ownsRow_mono hrow hB') (by omega) (Nat.le_refl B) (ownsRow_mono hown' hB') hgrow
  have hbase : ∀ g, v.ownBlock = some g → n1 ≤ g := fun g ej => by
    rcases hrow.2 with ⟨rfl, _⟩ | ⟨g', cap, cur, rfl, hb, _, _⟩
    · simp [Value.ownBlock] at ej
    · obtain rfl : g' = g := by simpa [Value.ownBlock] using ej
      exact hb
  refine ⟨h1, h2, hown'.kept (grownBy_setCell' w1 B v') (.inr (h1.not_row hte hown').symm), h4, ⟨h5.os, h5.tape, h5.output, h5.size, fun i hi hs => ?_⟩⟩
  have hne : i ≠ B := fun e => hs (by simp [e])
  rw [Below.heap_setCell _ _ _ _ hne]
  have hlt : i < W.heap.size := by omega
  refine (hgrow.block i (by simp; omega) (fun e => ?_)).trans (Below.heap_alloc _ _ _ hlt)
  have := hbase i e.symm
  omega

structure UnSt (c : PBC) (a : List Int) (H sb ob n1 : Nat) (vl vk va : Value) (s : Int) (pre : List (PV c)) (W : World) : Prop where
  box : Blk W H [vl, vk, .int .i64 c.bound] 30
  abox : Blk W (H + 1) [va] 28
  sum : Blk W sb [.int .i64 s] 3
  out : ∃ v, Boxed W ob 23 v ∧ W.ownsRow n1 3 1 v (uniL a s (pvs pre)).length ((uniL a s (pvs pre)).map (Value.int .i64)) ∧ True

theorem UnSt.own {c : PBC} {a : List Int} {H sb ob n1 B : Nat} {vl vk va : Value} {s : Int} : OwnFrom B (fun pre W => UnSt c a H sb ob n1 vl vk va s pre W) := fun pre X Y row hs hg hrow => by
  have hr : ∀ r, row = some r → ∃ o : Obj, X.heap[r]? = some o ∧ o.isCells = false := fun r e => (hrow r e).2
  exact ⟨blk_ownP _ _ _ () X Y row hs.box hg hr, blk_ownP _ _ _ () X Y row hs.abox hg hr, blk_ownP _ _ _ () X Y row hs.sum hg hr,
    holdsRow_own n1 ob 23 3 1 (fun pre : List (PV c) => (uniL a s (pvs pre)).length) (fun pre => (uniL a s (pvs pre)).map (Value.int .i64)) (fun _ _ => True) pre X Y row hs.out hg hr⟩

theorem slack_small {c : PBC} {a : List Int} (h : pbV c = true) : -1099511627776 ≤ slackC c a ∧ slackC c a ≤ 1099511627776 := by
  obtain ⟨h1, h2, h3, h4, h5⟩ := pbV_parts h
  have h6 := sumW_bound (t := liB a) (m := c.bound) h2 (l := c.lits.zip c.coefs) fun x hx => (okF_mem h4 _ hx).2
  rw [List.length_zip, ← h1, Nat.min_self] at h6
  have h7 : c.bound * (c.lits.length : Int) ≤ 16777216 * 65536 := Int.le_trans (Int.mul_le_mul_of_nonneg_right h3 (by omega)) (Int.mul_le_mul_of_nonneg_left (by omega) (by omega))
  unfold slackC
  rw [h]
  simp only [if_true]
  omega


set_option maxHeartbeats 4000000 in
set_option maxRecDepth 100000 in
theorem units_any (v va : Value) (c : PBC) (a : List Int) (w : World) (h : PBIs w v c) (ha : Bytes8 w va a) :
    Calls Tryz.prog 22 #[v, va] w fun e w' => ∃ vo, e = .returned vo ∧ Ints w' vo (unitsC c a) ∧ Below w.heap.size w w' := by
  obtain ⟨i0, hi, hz0, hz1, hz2⟩ := info_parts infoI
  obtain ⟨vl, vk, rfl, hL, hK, hbd⟩ := h
  obtain ⟨a1, c1, rfl, -, hl1, -, -⟩ := hL.form
  obtain ⟨a2, c2, rfl, -, hl2, -, -⟩ := hK.form
  have ha0 := ha
  obtain ⟨⟨ad, ca, rfl, -⟩, -⟩ := ha0
  have hal : Below w.heap.size w ((w.alloc (.cells #[.slice a1 c.lits.length c1, .slice a2 c.coefs.length c2, .int .i64 c.bound] 30)).alloc (.cells #[.slice ad a.length ca] 28)) := bal (bal (Below.refl _ _) _) _
  have HAL := Lib.hid hal
  have HC : Hid (PBIs ((w.alloc (.cells #[.slice a1 c.lits.length c1, .slice a2 c.coefs.length c2, .int .i64 c.bound] 30)).alloc (.cells #[.slice ad a.length ca] 28)) (.agg #[.slice a1 c.lits.length c1, .slice a2 c.coefs.length c2, .int .i64 c.bound]) c) := Lib.hid ⟨_, _, rfl, hL.below hal, hK.below hal, hbd⟩
  have HAW := Lib.hid (ha.below hal)
  have BB : Hid (Blk ((w.alloc (.cells #[.slice a1 c.lits.length c1, .slice a2 c.coefs.length c2, .int .i64 c.bound] 30)).alloc (.cells #[.slice ad a.length ca] 28)) w.heap.size [.slice a1 c.lits.length c1, .slice a2 c.coefs.length c2, .int .i64 c.bound] 30) := Lib.hid (by repeat first | (refine Blk.newAt _ _ _ ?_; first | rfl | (simp only [World.size_alloc]; done) | (simp only [World.size_alloc]; omega)) | refine Blk.alloc ?_ _)
  have BA : Hid (Blk ((w.alloc (.cells #[.slice a1 c.lits.length c1, .slice a2 c.coefs.length c2, .int .i64 c.bound] 30)).alloc (.cells #[.slice ad a.length ca] 28)) (w.heap.size + 1) [.slice ad a.length ca] 28) := Lib.hid (by repeat first | (refine Blk.newAt _ _ _ ?_; first | rfl | (simp only [World.size_alloc]; done) | (simp only [World.size_alloc]; omega)) | refine Blk.alloc ?_ _)
  have HL := Lib.hid hL
  have HK := Lib.hid hK
  have HA := Lib.hid ha
  unfold InI at hbd
  clear hL hK ha hal
  refine (callsIn_wide (n := 6)).1 ?_
  refine callsIn_of_wp_marks Tryz.func22 rfl trivial ?_ rfl
  simp only [Tryz.ntmps22, List.size_toArray, List.length_cons, List.length_nil, Nat.reduceAdd, Nat.reduceSub, Array.replicate_succ, Array.replicate_zero, List.push_toArray, List.append_toArray, List.nil_append, List.cons_append]
  cases hv : pbV c with
  | false =>
    have HF : Hid (unitsC c a = []) := Lib.hid (by unfold unitsC; rw [hv]; simp)
    have HV := Lib.hid hv
    clear hv
    gi_wp2_with (first | (refine ⟨trivial, ?_⟩; gi_at_call 18; refine (callsIn_wide.2 (pbValid_any _ c _ HC0.out)).mono ?_; rintro e w5 ⟨ev, hb5⟩; rw [HV.out] at ev; subst ev; have kv0 := ((B0.out.alloc _).below hb5).cell; have kv1 := ((B1.out.alloc _).below hb5).cell; have kv2 := ((Blk.new w0 [.int .i64 (slackC c a)] 3).below hb5).cell; have HB5 := Lib.hid (bon (bal HB0.out (.cells #[.int .i64 (slackC c a)] 3)) hb5); have C0 := Lib.hid ((B0.out.alloc (.cells #[.int .i64 (slackC c a)] 3)).below hb5); have C1 := Lib.hid ((B1.out.alloc (.cells #[.int .i64 (slackC c a)] 3)).below hb5); have C2 := Lib.hid ((Blk.new w0 [.int .i64 (slackC c a)] 3).below hb5); have hz5 := C2.out.lt; have hz6 : w.heap.size < w5.heap.size := C0.out.lt; have hz7 : w.heap.size + 1 < w5.heap.size := C1.out.lt; clear hb5) | (refine ⟨trivial, ?_⟩; gi_at_call 24; refine (callsIn_wide.2 (slack_any _ _ c a _ HC.out HAW.out)).mono ?_; rintro e w0 ⟨rfl, hb0⟩; have kk0 := (BB.out.below hb0).cell; have kk1 := (BA.out.below hb0).cell; have HB0 := Lib.hid (bon HAL.out hb0); have B0 := Lib.hid (BB.out.below hb0); have B1 := Lib.hid (BA.out.below hb0); have HC0 := Lib.hid ((HC.out.below hb0).below (bal (Below.refl w0.heap.size w0) (.cells #[.int .i64 (slackC c a)] 3))); have hzz := B1.out.lt; have hzy : w.heap.size < w0.heap.size := (by omega); clear hb0))
    exact ⟨.slice none 0 0, by simp [results, Tryz.f22, go_sem], _, rfl, by rw [HF.out]; exact nil_ints _, HB5.out⟩
  | true =>
    have HV := Lib.hid hv
    by_cases hs0 : 0 ≤ slackC c a
    · have HF : Hid (unitsC c a = uniL a (slackC c a) (c.lits.zip c.coefs)) := Lib.hid (if_pos ⟨hv, hs0⟩)
      have HLN := Lib.hid (pbV_parts hv).1
      have hbb := (pbV_parts hv).2
      obtain ⟨hb0, hb1', -, hlen⟩ := hbb
      have hsm := slack_small (a := a) hv
      clear hv
      gi_wp2_with (first | (refine ⟨trivial, ?_⟩; gi_at_call 51; refine (callsIn_wide.2 (parts_any _ _ _ _ ⟨_, _, _, rfl⟩ ⟨_, _, _, rfl⟩)).mono ?_; rintro e w1 ⟨rfl, hb1, hp1⟩) | (refine ⟨trivial, ?_⟩; gi_at_call 18; refine (callsIn_wide.2 (pbValid_any _ c _ HC0.out)).mono ?_; rintro e w5 ⟨ev, hb5⟩; rw [HV.out] at ev; subst ev; have kv0 := ((B0.out.alloc _).below hb5).cell; have kv1 := ((B1.out.alloc _).below hb5).cell; have kv2 := ((Blk.new w0 [.int .i64 (slackC c a)] 3).below hb5).cell; have HB5 := Lib.hid (bon (bal HB0.out (.cells #[.int .i64 (slackC c a)] 3)) hb5); have C0 := Lib.hid ((B0.out.alloc (.cells #[.int .i64 (slackC c a)] 3)).below hb5); have C1 := Lib.hid ((B1.out.alloc (.cells #[.int .i64 (slackC c a)] 3)).below hb5); have C2 := Lib.hid ((Blk.new w0 [.int .i64 (slackC c a)] 3).below hb5); have hz5 := C2.out.lt; have hz6 : w.heap.size < w5.heap.size := C0.out.lt; have hz7 : w.heap.size + 1 < w5.heap.size := C1.out.lt; clear hb5) | (refine ⟨trivial, ?_⟩; gi_at_call 24; refine (callsIn_wide.2 (slack_any _ _ c a _ HC.out HAW.out)).mono ?_; rintro e w0 ⟨rfl, hb0⟩; have kk0 := (BB.out.below hb0).cell; have kk1 := (BA.out.below hb0).cell; have HB0 := Lib.hid (bon HAL.out hb0); have B0 := Lib.hid (BB.out.below hb0); have B1 := Lib.hid (BA.out.below hb0); have HC0 := Lib.hid ((HC.out.below hb0).below (bal (Below.refl w0.heap.size w0) (.cells #[.int .i64 (slackC c a)] 3))); have hzz := B1.out.lt; have hzy : w.heap.size < w0.heap.size := (by omega); clear hb0))
      have b0 := (C0.out.alloc (.cells #[.slice none 0 0] 23)).below hb1
      have b1 := (C1.out.alloc (.cells #[.slice none 0 0] 23)).below hb1
      have b2 := (C2.out.alloc (.cells #[.slice none 0 0] 23)).below hb1
      have hbw := bon (bal HB5.out (.cells #[.slice none 0 0] 23)) hb1
      have hz := hp1.lt
      have bo : Boxed w1 w5.heap.size 23 (.slice none 0 0) := (Blk.new w5 [.slice none 0 0] 23).below hb1
      have hzs : w0.heap.size < w5.heap.size := C2.out.lt
      have hzr : w.heap.size + 1 < w0.heap.size := B1.out.lt
      simp only [World.size_alloc] at hz hp1 hb1
      have hst : PartSt w w1 [w5.heap.size] (w5.heap.size + 1) (.slice a1 c.lits.length c1) (.slice a2 c.coefs.length c2) c.bound := ⟨fun i hi => hbw.block i hi, hbw.size, hp1⟩
      clear hb1 hp1
      refine parts_loop HL.out HK.out HLN.out hst (fun s hs => by simp only [List.mem_cons, List.not_mem_nil, or_false] at hs; omega) (by simp <;> omega) (by omega) rfl rfl
        (fun pre W => UnSt c a w.heap.size w0.heap.size w5.heap.size w1.heap.size (.slice a1 c.lits.length c1) (.slice a2 c.coefs.length c2) (.slice ad a.length ca) (slackC c a) pre W ∧ Up w w1 W)
        (fun _ _ _ => False)
        (OwnFrom.and UnSt.own (Up.own hbw.size)) (fun _ _ _ _ _ h _ _ => h)
        ⟨⟨b0, b1, b2, _, bo, World.ownsRow_nil _ _ _ _, trivial⟩, hbw, Nat.le_refl _⟩ ?a1 ?assign ?body ?done ?stop
      case assign =>
        intro l x W K hK
        gi_wp2
        exact hK
      case body =>
        rintro l pre x W ⟨⟨k0, k1, k2, v1, kv, krow, -⟩, hU⟩ hlt
        have he := pv_elem HV.out x
        obtain ⟨⟨x1, x2⟩, hx⟩ := x
        dsimp only at he ⊢
        have HX0 : Hid (x1 ≠ 0) := Lib.hid he.1
        have HX1 : Hid (-4611686018427387904 ≤ x1 ∧ x1 ≤ 4611686018427387904) := Lib.hid (by omega)
        have hx2 : 1 ≤ x2 ∧ x2 ≤ 16777216 := he.2.2.2
        have HU := Lib.hid hU
        have HVA := Lib.hid (HA.out.below hU.below)
        have HK0 := Lib.hid k0
        have HK1 := Lib.hid k1
        have HK2 := Lib.hid k2
        have HKV := Lib.hid kv
        have HROW := Lib.hid krow
        have q1 := k1.cell 0
        have q2 := k2.cell 0
        have q3 := kv.cell
        have hU2 := hU.size
        have hU3 : w1.heap.size ≤ W.heap.size := hU.size
        have hun := uniL_len a (slackC c a) (pvs pre)
        rw [pvs_len] at hun
        have HSN : Hid (uniL a (slackC c a) (pvs (pre ++ [⟨(x1, x2), hx⟩])) = if valI a x1 = 0 ∧ slackC c a < x2 then uniL a (slackC c a) (pvs pre) ++ [x1] else uniL a (slackC c a) (pvs pre)) := Lib.hid (by rw [pvs_snoc]; exact uniL_snoc _ _ _ _)
        clear k0 k1 k2 kv krow hU he hst b0 b1 b2 bo
        by_cases hp : valI a x1 = 0
        · have hpe : (valI a x1 == 0) = true := by simp [hp]
          by_cases hq : slackC c a < x2
          · have HN : Hid (uniL a (slackC c a) (pvs (pre ++ [⟨(x1, x2), hx⟩])) = uniL a (slackC c a) (pvs pre) ++ [x1]) := Lib.hid (by rw [HSN.out, if_pos ⟨hp, hq⟩])
            clear hp
            gi_wp2_with (first
              | (gi_at_builtin; refine wpListIn_append_own _ rfl _ _ 23 rfl w1.heap.size 3 i0 (.int .i64 0) 1 8 Tryz.underlying23 hi hz0 hz1 hz2 rfl (by decide) _ _ _ rfl (HROW.out.alloc _) ⟨W.heap.size, 0, none⟩ 1 1 [.int .i64 x1] rfl rfl (cell_one_new _ _ _) (by simp [Value.oneCell']) (by unfold maxLen; omega) (by omega) (by simp; omega) ?_; intro v' w7 hown' hgrow _; obtain ⟨g', cap', rfl⟩ := ownsRow_succ hown'; obtain ⟨hv1, hv2, hr2, hk2, hl2⟩ := appended_lim HKV.out (by decide) HROW.out hU3 (by omega) hown' hgrow; have hc1 := hv1.cell; have hf1 := hv1.frozen)
              | (refine ⟨trivial, ?_⟩; gi_at_call 58; refine (CallsIn.inRound l (callsIn_wide.2 (pvalue_any _ a _ HVA.out _ HX0.out HX1.out))).mono ?_; rintro e w2 ⟨rfl, rfl⟩))
            have hb7 : Below w.heap.size W _ := (hl2.mono (m := w.heap.size) (S' := [w5.heap.size]) (by omega) (fun i hi _ => hi)).below (fun i hi => by simp only [List.mem_singleton] at hi; omega)
            refine ⟨hk2, hl2, ⟨HK0.out.same (hl2.block _ (by omega) (by simp; omega)), HK1.out.same (hl2.block _ (by omega) (by simp; omega)), HK2.out.same (hl2.block _ (by omega) (by simp; omega)), _, hv2, ?_, trivial⟩, HU.out.below.trans hb7, Nat.le_trans HU.out.size hl2.size⟩
            rw [HN.out]
            simpa using hr2
          · have HN : Hid (uniL a (slackC c a) (pvs (pre ++ [⟨(x1, x2), hx⟩])) = uniL a (slackC c a) (pvs pre)) := Lib.hid (by rw [HSN.out, if_neg (fun h => hq h.2)])
            clear hp
            gi_wp2_with (refine ⟨trivial, ?_⟩; gi_at_call 58; refine (CallsIn.inRound l (callsIn_wide.2 (pvalue_any _ a _ HVA.out _ HX0.out HX1.out))).mono ?_; rintro e w2 ⟨rfl, rfl⟩)
            refine ⟨KeepsOthers.refl _, Lim.refl _ _ _, ⟨HK0.out, HK1.out, HK2.out, v1, HKV.out, ?_, trivial⟩, HU.out⟩
            rw [HN.out]
            exact HROW.out
        · have hpe : (valI a x1 == 0) = false := by simp [hp]
          have HN : Hid (uniL a (slackC c a) (pvs (pre ++ [⟨(x1, x2), hx⟩])) = uniL a (slackC c a) (pvs pre)) := Lib.hid (by rw [HSN.out, if_neg (fun h => hp h.1)])
          clear hp
          gi_wp2_with (refine ⟨trivial, ?_⟩; gi_at_call 58; refine (CallsIn.inRound l (callsIn_wide.2 (pvalue_any _ a _ HVA.out _ HX0.out HX1.out))).mono ?_; rintro e w2 ⟨rfl, rfl⟩)
          refine ⟨KeepsOthers.refl _, Lim.refl _ _ _, ⟨HK0.out, HK1.out, HK2.out, v1, HKV.out, ?_, trivial⟩, HU.out⟩
          rw [HN.out]
          exact HROW.out
      case done =>
        rintro D xs W hD hS ⟨⟨k0, k1, k2, v1, kv, krow, -⟩, hU⟩ hK
        have q0 := kv.cell
        have hun := uniL_len a (slackC c a) (pvs xs)
        rw [hS, List.length_zip] at hun
        have HR := Lib.hid (ownsRow_putObj krow (.deferred none) hK rfl)
        have HE : Hid (pvs xs = c.lits.zip c.coefs) := Lib.hid hS
        have HU := Lib.hid hU
        have HD := Lib.hid hK
        clear k0 k1 k2 kv krow hS hU hK hst b0 b1 b2 bo
        gi_wp2
        refine ⟨by simp, .inl ⟨_, _, rfl, run_takeDeferred HD.out, ?_⟩⟩
        refine ⟨v1, by simp [results, Tryz.f22, go_sem], v1, rfl, ?_, HU.out.below.trans (belowK_b (w := w) (Nat.le_refl _) _ D _ _ (by omega) HD.out rfl rfl)⟩
        rw [HF.out]
        have h1 := HR.out
        rw [HE.out] at h1
        exact (own_of_row h1 (by omega) (fun i => by
          by_cases hi : i < (uniL a (slackC c a) (c.lits.zip c.coefs)).length
          · obtain ⟨y, hy, e⟩ := uniL_sub (ix_mem hi)
            have := pv_elem HV.out ⟨y, hy⟩
            dsimp only at this
            omega
          · unfold ix
            rw [List.getD_eq_getElem?_getD, List.getElem?_eq_none (by omega)]
            simp)).ints
      case stop => rintro D e pre W hD hS ⟨⟩
    · have HF : Hid (unitsC c a = []) := Lib.hid (if_neg (fun h => hs0 h.2))
      clear hv
      gi_wp2_with (first | (refine ⟨trivial, ?_⟩; gi_at_call 18; refine (callsIn_wide.2 (pbValid_any _ c _ HC0.out)).mono ?_; rintro e w5 ⟨ev, hb5⟩; rw [HV.out] at ev; subst ev; have kv0 := ((B0.out.alloc _).below hb5).cell; have kv1 := ((B1.out.alloc _).below hb5).cell; have kv2 := ((Blk.new w0 [.int .i64 (slackC c a)] 3).below hb5).cell; have HB5 := Lib.hid (bon (bal HB0.out (.cells #[.int .i64 (slackC c a)] 3)) hb5); have C0 := Lib.hid ((B0.out.alloc (.cells #[.int .i64 (slackC c a)] 3)).below hb5); have C1 := Lib.hid ((B1.out.alloc (.cells #[.int .i64 (slackC c a)] 3)).below hb5); have C2 := Lib.hid ((Blk.new w0 [.int .i64 (slackC c a)] 3).below hb5); have hz5 := C2.out.lt; have hz6 : w.heap.size < w5.heap.size := C0.out.lt; have hz7 : w.heap.size + 1 < w5.heap.size := C1.out.lt; clear hb5) | (refine ⟨trivial, ?_⟩; gi_at_call 24; refine (callsIn_wide.2 (slack_any _ _ c a _ HC.out HAW.out)).mono ?_; rintro e w0 ⟨rfl, hb0⟩; have kk0 := (BB.out.below hb0).cell; have kk1 := (BA.out.below hb0).cell; have HB0 := Lib.hid (bon HAL.out hb0); have B0 := Lib.hid (BB.out.below hb0); have B1 := Lib.hid (BA.out.below hb0); have HC0 := Lib.hid ((HC.out.below hb0).below (bal (Below.refl w0.heap.size w0) (.cells #[.int .i64 (slackC c a)] 3))); have hzz := B1.out.lt; have hzy : w.heap.size < w0.heap.size := (by omega); clear hb0))
      exact ⟨.slice none 0 0, by simp [results, Tryz.f22, go_sem], _, rfl, by rw [HF.out]; exact nil_ints _, HB5.out⟩

end Go.Proofs.YthclpkhaenaknaaGreatDoor

/- LoopsMake's plain law: what Make returns for an unfounded set, held against an assignment. -/
namespace Go.Proofs.YthclpkhaenaknaaGreatDoor
open Go.RowKit

theorem okF_gt {bd : Int} : ∀ {l : List (Int × Int)} {last : Int}, okF bd last l = true → ∀ x ∈ l, last < (x.1.natAbs : Int)
  | [], _, _, x, hx => by cases hx
  | y :: l, last, h, x, hx => by
    unfold okF chkB at h
    simp only [Bool.and_eq_true, decide_eq_true_eq] at h
    rcases List.mem_cons.1 hx with rfl | hx
    · exact h.1.1.1.2
    · have := okF_gt h.2 x hx
      omega

theorem sumW_none {t : Int → Bool} : ∀ {l : List (Int × Int)}, (∀ x ∈ l, t x.1 = false) → sumW t l = 0
  | [], _ => rfl
  | x :: l, h => by
    simp only [sumW, h x (.head _), sumW_none (l := l) fun y hy => h y (.tail _ hy)]
    rfl

theorem filter_none {α : Type} {f : α → Bool} {l : List α} (h : ∀ x ∈ l, f x = false) : l.filter f = [] := by
  rw [List.filter_eq_nil_iff]
  intro x hx
  rw [h x hx]
  exact Bool.false_ne_true

/-- Of a clause's literals one alone is met. -/
theorem one_met {y : Int} : ∀ {l : List (Int × Int)} {last : Int}, okF 1 last l = true → (∃ x ∈ l, x.1 = y) → (∀ t : Int → Bool, (∀ x ∈ l, t x.1 = decide (x.1 = y)) → sumW t l = 1) ∧ ∀ f : Int × Int → Bool, (∀ x ∈ l, f x = decide (x.1 = y)) → (l.filter f).map (·.1) = [y]
  | [], _, _, ⟨x, hx, _⟩ => by cases hx
  | x :: l, last, h, hm => by
    unfold okF chkB at h
    simp only [Bool.and_eq_true, decide_eq_true_eq] at h
    have h1 : x.2 = 1 := by omega
    have hgt := okF_gt h.2
    by_cases hx : x.1 = y
    · have hno : ∀ z ∈ l, z.1 ≠ y := fun z hz e => by
        have := hgt z hz
        rw [e, hx] at this
        omega
      refine ⟨fun t ht => ?_, fun f hf => ?_⟩
      · simp only [sumW, ht x (.head _), sumW_none (t := t) fun z hz => by rw [ht z (.tail _ hz), decide_eq_false (hno z hz)], decide_eq_true hx, if_true, h1]
        rfl
      · rw [List.filter_cons, if_pos (by rw [hf x (.head _), decide_eq_true hx]), filter_none fun z hz => by rw [hf z (.tail _ hz), decide_eq_false (hno z hz)]]
        simp [hx]
    · have hm' : ∃ z ∈ l, z.1 = y := by
        obtain ⟨z, hz, e⟩ := hm
        rcases List.mem_cons.1 hz with rfl | hz
        · exact (hx e).elim
        · exact ⟨z, hz, e⟩
      obtain ⟨i1, i2⟩ := one_met h.2 hm'
      refine ⟨fun t ht => ?_, fun f hf => ?_⟩
      · simp only [sumW, ht x (.head _), decide_eq_false hx, i1 t fun z hz => ht z (.tail _ hz)]
        rfl
      · rw [List.filter_cons, if_neg (by rw [hf x (.head _), decide_eq_false hx]; exact Bool.false_ne_true)]
        exact i2 f fun z hz => hf z (.tail _ hz)

theorem zip_mem {c : PBC} (hl : c.lits.length = c.coefs.length) {y : Int} (h : y ∈ c.lits) : ∃ x ∈ c.lits.zip c.coefs, x.1 = y := by
  obtain ⟨i, hi, rfl⟩ := List.mem_iff_getElem.1 h
  refine ⟨(c.lits[i], c.coefs[i]'(by omega)), ?_, rfl⟩
  rw [List.mem_iff_getElem]
  exact ⟨i, by rw [List.length_zip]; omega, by simp⟩

/-- What the law asks of a clause: its literals but -v are false. -/
structure MadeC (a : List Int) (v : Int) (c : PBC) : Prop where
  pv : pbV c = true
  bd : c.bound = 1
  mem : -v ∈ c.lits
  off : ∀ x ∈ c.lits, x ≠ -v → offB a x = true
  pos : 1 ≤ v ∧ v ≤ 10

theorem make_made {p : GP} {a S : List Int} {v : Int} (hf : fewB p = true) (hu : unfB p a S = true) (hv : v ∈ S) : ∃ c, makeP p a S v = (c, 0) ∧ validC p S c = true ∧ MadeC a v c := by
  obtain ⟨c, h1, h2, h3, -, h5⟩ := make_good hf hu hv
  obtain ⟨g1, g2, g3⟩ := lits0_out hu hv
  refine ⟨c, h1, make_valid hf hu hv (by rw [h1]), h3, h2, (h5 _).2 (by unfold lits0; simp), fun x hx hne => ?_, g1, by have := (few_len hf).1; omega⟩
  have := (h5 x).1 hx
  unfold lits0 at this
  rcases List.mem_append.1 this with h | h
  · exact (hne (by simpa using h)).elim
  · exact (g3 x h).1

section
variable {a : List Int} {v : Int} {c : PBC}

theorem MadeC.ok (h : MadeC a v c) : okF 1 0 (c.lits.zip c.coefs) = true ∧ ∃ x ∈ c.lits.zip c.coefs, x.1 = -v := by
  obtain ⟨h1, -, -, h4, -⟩ := pbV_parts h.pv
  rw [h.bd] at h4
  exact ⟨h4, zip_mem h1 h.mem⟩

theorem MadeC.val (h : MadeC a v c) (x : Int × Int) (hx : x ∈ c.lits.zip c.coefs) : x.1 ≠ -v → valI a x.1 = -1 := fun hne => by
  have := h.off x.1 (List.of_mem_zip hx).1 hne
  unfold valI
  rw [this]
  rfl

theorem MadeC.sum (h : MadeC a v c) (t : Int → Bool) (ht : ∀ x, valI a x = -1 → t x = false) : sumW t (c.lits.zip c.coefs) = if t (-v) then 1 else 0 := by
  obtain ⟨h1, h2⟩ := h.ok
  cases e : t (-v) with
  | true =>
    refine (one_met h1 h2).1 t fun x hx => ?_
    by_cases hx1 : x.1 = -v
    · rw [decide_eq_true hx1, hx1, e]
    · rw [decide_eq_false hx1, ht _ (h.val x hx hx1)]
  | false =>
    refine sumW_none fun x hx => ?_
    by_cases hx1 : x.1 = -v
    · rw [hx1, e]
    · exact ht _ (h.val x hx hx1)

theorem MadeC.unknown (h : MadeC a v c) (h0 : valI a (-v) = 0) : unitsC c a = [-v] := by
  have hs : slackC c a = 0 := by
    unfold slackC
    rw [h.pv, h.bd, h.sum (liB a) (fun x hx => by unfold liB; rw [hx]; rfl)]
    unfold liB
    rw [h0]
    rfl
  unfold unitsC
  rw [if_pos ⟨h.pv, by omega⟩, hs]
  obtain ⟨h1, h2⟩ := h.ok
  refine (one_met h1 h2).2 _ fun x hx => ?_
  have hx2 := (okF_mem h1 x hx).2.1
  rw [decide_eq_true (show (0 : Int) < x.2 by omega), Bool.and_true]
  by_cases hx1 : x.1 = -v
  · rw [hx1, h0]; simp
  · rw [h.val x hx hx1, decide_eq_false hx1]; decide

theorem MadeC.holds (h : MadeC a v c) : holdsC c a = decide (0 < valI a (-v)) := by
  unfold holdsC
  rw [h.pv, h.bd, h.sum (onB a) (fun x hx => by unfold onB; rw [hx]; rfl)]
  unfold onB
  cases decide (0 < valI a (-v)) <;> rfl

theorem MadeC.slack (h : MadeC a v c) (h0 : valI a (-v) < 0) : slackC c a = -1 := by
  unfold slackC
  rw [h.pv, h.bd, h.sum (liB a) (fun x hx => by unfold liB; rw [hx]; rfl)]
  unfold liB
  rw [decide_eq_false (by omega)]
  rfl
end

theorem valI_neg {a : List Int} {v : Nat} (hv : 1 ≤ v) : (a.length < v → valI a (-(v : Int)) = 0) ∧ (v ≤ a.length → (ix a (v - 1) = 0 → valI a (-(v : Int)) = 0) ∧ (0 < ix a (v - 1) → valI a (-(v : Int)) = -1) ∧ (ix a (v - 1) < 0 → valI a (-(v : Int)) = 1)) := by
  have HP := offB_pos a v hv
  have HN := offB_neg a v
  unfold valI
  rw [Int.neg_neg, HN, HP]
  refine ⟨fun h => ?_, fun h => ⟨fun h0 => ?_, fun h0 => ?_, fun h0 => ?_⟩⟩
  · rw [decide_eq_false (show ¬ v ≤ a.length by omega)]; rfl
  · rw [h0]; simp
  · rw [decide_eq_true h, decide_eq_true h0]; simp; omega
  · rw [decide_eq_true h, decide_eq_false (show ¬ 0 < ix a (v - 1) by omega), decide_eq_true (show ix a (v - 1) ≠ 0 by omega)]; simp; omega

theorem unf_nil (p : GP) (a : List Int) : unfB p a [] = false := by
  unfold unfB setB'
  simp

theorem make_no {p : GP} {a S : List Int} {v : Int} (h : unfB p a S = false) : makeP p a S v = (⟨[], [], 0⟩, 2) := by
  unfold makeP
  rw [h]
  rfl

end Go.Proofs.YthclpkhaenaknaaGreatDoor

/- ostlerlaw27.LoopsMake returns true and writes nothing that was there. -/
namespace Go.Proofs.YthclpkhaenaknaaGreatDoor
open Go.RowKit

/-- What LoopsMake leans on. -/
structure MlSt (w : World) (p : GP) (a : List Int) (vn vs vr vm va : Value) (W : World) : Prop where
  box : Blk W w.heap.size [.int .i64 p.n, vn, vs, vr, vm] 27
  prog : ProgIs W (.agg #[.int .i64 p.n, vn, vs, vr, vm]) p
  asg : Bytes8 W va a
  below : Below w.heap.size w W

theorem MlSt.on {w W W' : World} {p : GP} {a : List Int} {vn vs vr vm va : Value} (h : MlSt w p a vn vs vr vm va W) (hb : Below W.heap.size W W') : MlSt w p a vn vs vr vm va W' := ⟨h.box.below hb, h.prog.below hb, h.asg.below hb, bon h.below hb⟩

/-- The same, with the set and the clause. -/
structure Ml2 (w : World) (p : GP) (a S : List Int) (c : PBC) (cb : Nat) (vn vs vr vm va vset vl vk : Value) (W : World) : Prop where
  st : MlSt w p a vn vs vr vm va W
  set : Ints W vset S
  box : BoxC cb vl vk c W

theorem BoxC.pb {b : Nat} {vl vk : Value} {c : PBC} {W : World} (h : BoxC b vl vk c W) : PBIs W (.agg #[vl, vk, .int .i64 c.bound]) c := h.2

theorem Ml2.on {w W W' : World} {p : GP} {a S : List Int} {c : PBC} {cb : Nat} {vn vs vr vm va vset vl vk : Value} (h : Ml2 w p a S c cb vn vs vr vm va vset vl vk W) (hb : Below W.heap.size W W') : Ml2 w p a S c cb vn vs vr vm va vset vl vk W' := ⟨h.st.on hb, h.set.below hb, h.box.on hb⟩

set_option maxHeartbeats 4000000 in
set_option maxRecDepth 100000 in
theorem mkl_walk (vp va : Value) (p : GP) (a : List Int) (bits which : Int) (w : World) (hP : ProgIs w vp p) (hA : Bytes8 w va a) (hb : 0 ≤ bits ∧ bits ≤ 65535) (hw : 0 ≤ which ∧ which ≤ 255) :
    Calls Tryz.prog 6 #[vp, va, .int .u16 bits, .int .u8 which] w fun e w' => e = .returned (.bool true) ∧ Below w.heap.size w w' := by
  have hP0 := hP
  obtain ⟨vn, vs, vr, vm, rfl, hPS⟩ := hP
  have hpn := hPS.n
  obtain ⟨a1, c1, rfl, -, hl1, -, -⟩ := hPS.rules.form
  have hA0 := hA
  obtain ⟨⟨a9, c9, rfl, hc9, hm9, hl9, hcell⟩, hb8⟩ := hA
  have hal : Below w.heap.size w (w.alloc (.cells #[.int .i64 p.n, vn, vs, .slice a1 p.rules.length c1, vm] 27)) := bal (Below.refl _ _) _
  have HS0 : Hid (MlSt w p a vn vs (.slice a1 p.rules.length c1) vm (.slice a9 a.length c9) (w.alloc (.cells #[.int .i64 p.n, vn, vs, .slice a1 p.rules.length c1, vm] 27))) :=
    Lib.hid ⟨Blk.new w _ _, hP0.below hal, hA0.below hal, hal⟩
  have HCA := Lib.hid hcell
  have HB8 := Lib.hid hb8
  unfold InI at hpn
  clear hP0 hPS hA0 hal hcell hb8 hm9
  go_enter Tryz.func6, Tryz.ntmps6
  go_upto_region 1 with fail
  have kx0 := HS0.out.box.cell
  generalize w.alloc (.cells #[.int .i64 p.n, vn, vs, .slice a1 p.rules.length c1, vm] 27) = W at *
  cases hfw : fewB p with
  | false =>
    have HFW := Lib.hid hfw
    clear hfw
    go_wp2_with (first | (go_at_call 8; (with_reducible refine (few_any _ p _ HS0.out.prog).mono ?_); rintro e w1 ⟨h1, hb1⟩; rw [HFW.out] at h1; subst h1; have HS1 := Lib.hid (HS0.out.on hb1); have kx1 := HS1.out.box.cell; clear hb1) | (go_at_call 9; (with_reducible refine (awake27_any _).mono ?_); rintro e w9 ⟨rfl, hb9⟩; have HS9 := Lib.hid (HS1.out.on hb9); have kx9 := HS9.out.box.cell; clear hb9))
    go_ret
    exact ⟨rfl, HS9.out.below⟩
  | true =>
    have HFW := Lib.hid hfw
    clear hfw
    by_cases hv : validE p = 0
    · have hve : (validE p != 0) = false := by simp [hv]
      have HV := Lib.hid hv
      have hn0 := (validP hv).n
      clear hv
      have hf10 : p.n ≤ 10 := (few_len HFW.out).1
      have hsl := subL_len bits p.n.toNat
      go_upto_region 4 with (first
        | (go_at_call 8; (with_reducible refine (few_any _ p _ HS0.out.prog).mono ?_); rintro e w1 ⟨h1, hb1⟩; rw [HFW.out] at h1; subst h1; have HS1 := Lib.hid (HS0.out.on hb1); have kx1 := HS1.out.box.cell; clear hb1)
        | (go_at_call 17; (with_reducible refine (valid_any _ p w1 HS1.out.prog).mono ?_); rintro e w2 ⟨rfl, hb2⟩; have HS2 := Lib.hid (HS1.out.on hb2); have kx2 := HS2.out.box.cell; clear hb2 kx1)
        | (go_at_call 20; (with_reducible refine (subset_int p.n bits (by omega) w2).mono ?_); rintro e w3 ⟨vset, rfl, hq, hb3⟩; have HS3 := Lib.hid (HS2.out.on hb3); have kx3 := HS3.out.box.cell; have HI3 := Lib.hid (hq.ints (by omega)); clear hb3 hq kx2))
      obtain ⟨a4, c4, rfl, -, -, -, hcS⟩ := HI3.out.form
      by_cases h0 : (subL bits p.n.toNat).length = 0
      · have h0e : (((subL bits p.n.toNat).length : Int) == 0) = true := by simp [h0]
        have HU : Hid (unfB p a (subL bits p.n.toNat) = false) := Lib.hid (by rw [List.eq_nil_of_length_eq_zero h0]; exact unf_nil p a)
        clear h0 hcS
        go_wp2_with (first
          | (go_at_call 12; (with_reducible refine (unfounded_any _ _ _ p a (subL bits p.n.toNat) w3 HS3.out.prog HS3.out.asg HI3.out).mono ?_); rintro e w4 ⟨e1, hb4⟩; rw [HU.out] at e1; subst e1; have HS4 := Lib.hid (HS3.out.on hb4); have kx4 := HS4.out.box.cell; clear hb4)
          | (go_at_call 9; (with_reducible refine (awake27_any _).mono ?_); rintro e w9 ⟨rfl, hb9⟩; have HS9 := Lib.hid (HS4.out.on hb9); have kx9 := HS9.out.box.cell; clear hb9))
        go_ret
        exact ⟨rfl, HS9.out.below⟩
      · have h0e : (((subL bits p.n.toNat).length : Int) == 0) = false := by simp [h0]
        obtain ⟨bS, oS, rfl, hbS, hcc⟩ := hcS (by omega)
        have hS60 : (subL bits p.n.toNat).length ≤ 60 := by omega
        generalize subL bits p.n.toNat = S at *
        obtain ⟨k, hk, hkl⟩ : ∃ k : Nat, which % (S.length : Int) = k ∧ k < S.length := by
          have h1 := Int.emod_nonneg which (show (S.length : Int) ≠ 0 by omega)
          have h2 := Int.emod_lt_of_pos which (show (0 : Int) < (S.length : Int) by omega)
          exact ⟨(which % (S.length : Int)).toNat, by omega, by omega⟩
        have hk1 := hcc k hkl
        have HM : Hid (ix S k ∈ S) := Lib.hid (ix_mem hkl)
        have HVI : Hid (InI (ix S k)) := Lib.hid (HI3.out.2 k)
        clear hcS hcc h0
        go_upto_region 7 with fail
        clear hk1 hk
        generalize ix S k = v at *
        cases hu : unfB p a S with
        | false =>
          have HU := Lib.hid hu
          have HMK := Lib.hid (make_no (v := v) hu)
          clear hu
          go_upto_region 8 with (go_at_call 10; (with_reducible refine (make_any _ _ _ p a S v w3 HS3.out.prog HS3.out.asg HI3.out HVI.out).mono ?_); rintro e w4 ⟨vc, e1, hq, hb4⟩; rw [HMK.out] at e1 hq; subst e1; obtain ⟨vl, vk, rfl, hq1, hq2, hq3⟩ := hq; obtain ⟨al, cl, rfl⟩ := hq1.slen; obtain ⟨ak, ck, rfl⟩ := hq2.slen; have hc4 := BoxC.new hq1 hq2 hq3; have hs4 := HS3.out.on hb4; have hi4 := HI3.out.below hb4; clear hq1 hq2 hq3 hb4)
          have hal4 := bal (Below.refl w4.heap.size w4) (.cells #[.slice al (⟨[], [], 0⟩ : PBC).lits.length cl, .slice ak (⟨[], [], 0⟩ : PBC).coefs.length ck, .int .i64 (⟨[], [], 0⟩ : PBC).bound] 30)
          have HT5 := Lib.hid (Ml2.mk (hs4.on hal4) (hi4.below hal4) hc4)
          have kx5 := HT5.out.st.box.cell
          have kc5 := HT5.out.box.1.cell
          clear hal4 hs4 hi4 hc4
          generalize w4.alloc (.cells #[.slice al (⟨[], [], 0⟩ : PBC).lits.length cl, .slice ak (⟨[], [], 0⟩ : PBC).coefs.length ck, .int .i64 (⟨[], [], 0⟩ : PBC).bound] 30) = w5 at *
          simp only [List.length_nil] at HT5 kc5 ⊢
          go_wp2_with (first
            | (go_at_call 12; (with_reducible refine (unfounded_any _ _ _ p a S w5 HT5.out.st.prog HT5.out.st.asg HT5.out.set).mono ?_); rintro e w6 ⟨e1, hb6⟩; rw [HU.out] at e1; subst e1; have HT6 := Lib.hid (HT5.out.on hb6); have kx6 := HT6.out.st.box.cell; have kc6 := HT6.out.box.1.cell; clear hb6)
            | (go_at_call 9; (with_reducible refine (awake27_any _).mono ?_); rintro e w9 ⟨rfl, hb9⟩; have HT9 := Lib.hid (HT6.out.on hb9); have kx9 := HT9.out.st.box.cell; have kc9 := HT9.out.box.1.cell; clear hb9))
          go_ret
          exact ⟨rfl, HT9.out.st.below⟩
        | true =>
          have HU := Lib.hid hu
          obtain ⟨c, hmk, hvc, hmc⟩ := make_made HFW.out hu HM.out
          have HMK := Lib.hid hmk
          have HVC := Lib.hid hvc
          have HMC := Lib.hid hmc
          clear hu hmk hvc hmc
          go_upto_region 8 with (go_at_call 10; (with_reducible refine (make_any _ _ _ p a S v w3 HS3.out.prog HS3.out.asg HI3.out HVI.out).mono ?_); rintro e w4 ⟨vc, e1, hq, hb4⟩; rw [HMK.out] at e1 hq; subst e1; obtain ⟨vl, vk, rfl, hq1, hq2, hq3⟩ := hq; obtain ⟨al, cl, rfl⟩ := hq1.slen; obtain ⟨ak, ck, rfl⟩ := hq2.slen; have hc4 := BoxC.new hq1 hq2 hq3; have hs4 := HS3.out.on hb4; have hi4 := HI3.out.below hb4; clear hq1 hq2 hq3 hb4)
          have hal4 := bal (Below.refl w4.heap.size w4) (.cells #[.slice al (c : PBC).lits.length cl, .slice ak (c : PBC).coefs.length ck, .int .i64 (c : PBC).bound] 30)
          have HT5 := Lib.hid (Ml2.mk (hs4.on hal4) (hi4.below hal4) hc4)
          have kx5 := HT5.out.st.box.cell
          have kc5 := HT5.out.box.1.cell
          clear hal4 hs4 hi4 hc4
          generalize w4.alloc (.cells #[.slice al (c : PBC).lits.length cl, .slice ak (c : PBC).coefs.length ck, .int .i64 (c : PBC).bound] 30) = w5 at *
          go_upto_region 12 with (first
            | (go_at_call 12; (with_reducible refine (unfounded_any _ _ _ p a S w5 HT5.out.st.prog HT5.out.st.asg HT5.out.set).mono ?_); rintro e w6 ⟨e1, hb6⟩; rw [HU.out] at e1; subst e1; have HT6 := Lib.hid (HT5.out.on hb6); have kx6 := HT6.out.st.box.cell; have kc6 := HT6.out.box.1.cell; clear hb6)
            | (go_at_call 14; (with_reducible refine (lval_any _ _ _ p S c w6 HT6.out.st.prog HT6.out.set HT6.out.box.pb).mono ?_); rintro e w7 ⟨e1, hb7⟩; rw [HVC.out] at e1; subst e1; have HT7 := Lib.hid (HT6.out.on hb7); have kx7 := HT7.out.st.box.cell; have kc7 := HT7.out.box.1.cell; clear hb7))
          have hv1 := HMC.out.pos
          obtain ⟨n, hn, rfl⟩ : ∃ n : Nat, 1 ≤ n ∧ v = (n : Int) := ⟨v.toNat, by omega, by omega⟩
          have hn10 : n ≤ 10 := by omega
          obtain ⟨g0, g1⟩ := valI_neg (a := a) hn
          by_cases hla : n ≤ a.length
          · obtain ⟨b9, o9, rfl, hb9l, hc9c⟩ := HCA.out (by omega)
            have hca := fun (W : World) (hW : Below w.heap.size w W) => (bcell hW _ _ hb9l).trans (hc9c (n - 1) (by omega))
            have hk7 := hca w7 HT7.out.st.below
            have e8 := HB8.out (n - 1)
            obtain ⟨g1, g2, g3⟩ := g1 hla
            generalize ix a (n - 1) = y at *
            have hle : ¬ (a.length : Int) < n := by omega
            have hk8 : w7.cell? ⟨b9, o9 + ((n : Int) - 1).toNat, none⟩ = some (.int .i8 y) := by rw [show ((n : Int) - 1).toNat = n - 1 by omega]; exact hk7
            by_cases hy0 : y = 0
            · have HUN := Lib.hid (HMC.out.unknown (g1 hy0))
              subst hy0
              clear g0 g1 g2 g3 hla hca hc9c
              go_wp2_with (first
                | (go_at_call 22; (with_reducible refine (units_any _ _ c a w7 HT7.out.box.pb HT7.out.st.asg).mono ?_); rintro e w8 ⟨vo, rfl, ho, hb8⟩; rw [HUN.out] at ho; obtain ⟨au, cu, rfl, -, -, -, hcu⟩ := ho.form; obtain ⟨bu, ou, rfl, hbu, hcuu⟩ := hcu (by simp); have hku : w8.cell? ⟨bu, ou, none⟩ = some (.int .i64 (-(n : Int))) := hcuu 0 (by simp); have HT8 := Lib.hid (HT7.out.on hb8); have kx8 := HT8.out.st.box.cell; have kc8 := HT8.out.box.1.cell; clear ho hcu hcuu hb8)
                | (go_at_call 9; (with_reducible refine (awake27_any _).mono ?_); rintro e w9 ⟨rfl, hb9⟩; have HT9 := Lib.hid (HT8.out.on hb9); have kx9 := HT9.out.st.box.cell; have kc9 := HT9.out.box.1.cell; clear hb9))
              go_ret
              exact ⟨rfl, HT9.out.st.below⟩
            · have hye : (y == 0) = false := by simp [hy0]
              have HHO : Hid (∀ e : Ext w7, Calls Tryz.prog 23 #[.agg #[.slice al c.lits.length cl, .slice ak c.coefs.length ck, .int .i64 c.bound], .slice (some ⟨b9, o9, none⟩) a.length c9] e.world fun r w' => r = .returned (.bool (decide (y < 0))) ∧ Below e.world.heap.size e.world w') := Lib.hid fun e => by
                have h := holds_any _ _ c a e.world (HT7.out.on e.below).box.pb (HT7.out.on e.below).st.asg
                rw [HMC.out.holds] at h
                refine h.mono fun r w' ⟨h1, h2⟩ => ⟨h1.trans (ret_bool ?_), h2⟩
                rcases Int.lt_or_gt_of_ne hy0 with h | h
                · rw [g3 h, decide_eq_true h]; rfl
                · rw [g2 h, decide_eq_false (show ¬ y < 0 by omega)]; rfl
              have HAW : Hid (∀ e : Ext w7, Calls Tryz.prog 9 #[] e.world fun r w' => r = .returned (.bool true) ∧ Below e.world.heap.size e.world w') := Lib.hid fun e => awake27_any e.world
              have kc7' : ∀ e : Ext w7, ∀ o, e.world.cell? ⟨w4.heap.size, o, none⟩ = _ := fun e o => (bcell e.below _ o HT7.out.box.1.lt).trans (kc7 o)
              have ka7 : ∀ e : Ext w7, e.world.cell? ⟨b9, o9 + ((n : Int) - 1).toNat, none⟩ = some (.int .i8 y) := fun e => (bcell e.below _ _ (Nat.lt_of_lt_of_le hb9l HT7.out.st.below.size)).trans hk8
              have kb7 : ∀ e : Ext w7, e.world.cell? ⟨b9, o9 + (n - 1), none⟩ = some (.int .i8 y) := fun e => (bcell e.below _ _ (Nat.lt_of_lt_of_le hb9l HT7.out.st.below.size)).trans hk7
              by_cases hy : y < 0
              · have hyd : decide (y < 0) = true := decide_eq_true hy
                simp only [hyd] at HHO
                clear g0 g1 g2 g3 hla hca hc9c
                go_upto_region 16 with fail
                clear kc7 kx7 hk7 hk8
                refine wp_region_ext (by kernel_rfl) (by kernel_rfl) ?_
                repeat (go_big_quiet_step ((first | (go_at_call 23; exact Calls.ext_of (HHO.out _)) | (go_at_call 9; exact Calls.ext_of (HAW.out _)))))
                refine wpQuiet_nil ?_
                intro w9 hw'
                obtain ⟨e9, he9⟩ := hw'
                have hb9 := e9.below
                rw [← he9] at hb9
                clear he9 e9
                try dsimp only
                go_wp2
                go_ret
                exact ⟨rfl, bon HT7.out.st.below hb9⟩
              · have hyd : decide (y < 0) = false := decide_eq_false hy
                simp only [hyd] at HHO
                have HSL : Hid (∀ e : Ext w7, Calls Tryz.prog 24 #[.agg #[.slice al c.lits.length cl, .slice ak c.coefs.length ck, .int .i64 c.bound], .slice (some ⟨b9, o9, none⟩) a.length c9] e.world fun r w' => r = .returned (.int .i64 (-1)) ∧ Below e.world.heap.size e.world w') := Lib.hid fun e => by
                  have h := slack_any _ _ c a e.world (HT7.out.on e.below).box.pb (HT7.out.on e.below).st.asg
                  rw [HMC.out.slack (by rw [g2 (by omega)]; decide)] at h
                  exact h
                clear g0 g1 g2 g3 hla hca hc9c
                go_upto_region 16 with fail
                clear kc7 kx7 hk7 hk8
                refine wp_region_ext (by kernel_rfl) (by kernel_rfl) ?_
                repeat (go_big_quiet_step ((first | (go_at_call 23; exact Calls.ext_of (HHO.out _)) | (go_at_call 24; exact Calls.ext_of (HSL.out _)) | (go_at_call 9; exact Calls.ext_of (HAW.out _)))))
                refine wpQuiet_nil ?_
                intro w9 hw'
                obtain ⟨e9, he9⟩ := hw'
                have hb9 := e9.below
                rw [← he9] at hb9
                clear he9 e9
                try dsimp only
                go_wp2
                go_ret
                exact ⟨rfl, bon HT7.out.st.below hb9⟩
          · have hgt : (a.length : Int) < n := by omega
            have HUN := Lib.hid (HMC.out.unknown (g0 (by omega)))
            clear g0 g1 hla HCA HB8
            go_wp2_with (first
              | (go_at_call 22; (with_reducible refine (units_any _ _ c a w7 HT7.out.box.pb HT7.out.st.asg).mono ?_); rintro e w8 ⟨vo, rfl, ho, hb8⟩; rw [HUN.out] at ho; obtain ⟨au, cu, rfl, -, -, -, hcu⟩ := ho.form; obtain ⟨bu, ou, rfl, hbu, hcuu⟩ := hcu (by simp); have hku : w8.cell? ⟨bu, ou, none⟩ = some (.int .i64 (-(n : Int))) := hcuu 0 (by simp); have HT8 := Lib.hid (HT7.out.on hb8); have kx8 := HT8.out.st.box.cell; have kc8 := HT8.out.box.1.cell; clear ho hcu hcuu hb8)
              | (go_at_call 9; (with_reducible refine (awake27_any _).mono ?_); rintro e w9 ⟨rfl, hb9⟩; have HT9 := Lib.hid (HT8.out.on hb9); have kx9 := HT9.out.st.box.cell; have kc9 := HT9.out.box.1.cell; clear hb9))
            go_ret
            exact ⟨rfl, HT9.out.st.below⟩
    · have hve : (validE p != 0) = true := by simp [hv]
      clear hv
      go_wp2_with (first
        | (go_at_call 8; (with_reducible refine (few_any _ p _ HS0.out.prog).mono ?_); rintro e w1 ⟨h1, hb1⟩; rw [HFW.out] at h1; subst h1; have HS1 := Lib.hid (HS0.out.on hb1); have kx1 := HS1.out.box.cell; clear hb1)
        | (go_at_call 17; (with_reducible refine (valid_any _ p w1 HS1.out.prog).mono ?_); rintro e w2 ⟨rfl, hb2⟩; have HS2 := Lib.hid (HS1.out.on hb2); have kx2 := HS2.out.box.cell; clear hb2)
        | (go_at_call 9; (with_reducible refine (awake27_any _).mono ?_); rintro e w9 ⟨rfl, hb9⟩; have HS9 := Lib.hid (HS2.out.on hb9); have kx9 := HS9.out.box.cell; clear hb9))
      go_ret
      exact ⟨rfl, HS9.out.below⟩

theorem make_law {W : World} {vp va : Value} {p : GP} {a : List Int} (hP : ProgIs W vp p) (hA : Bytes8 W va a) (x : Int) (hx : (Lit.int .u16 x).wf = true) (y : Int) (hy : (Lit.int .u8 y).wf = true) :
    Calls Tryz.prog 6 #[vp, va, .int .u16 x, .int .u8 y] W fun e w' => e = .returned (.bool true) ∧ Below W.heap.size W w' :=
  mkl_walk vp va p a x y W hP hA (bounds_u16 hx) (bounds_u8 hy)

end Go.Proofs.YthclpkhaenaknaaGreatDoor

/- 'append([]T{}, x...)' for elements of one cell. -/
namespace Go.Proofs.YthclpkhaenaknaaGreatDoor
open Go.RowKit

theorem Sl.srcG {w : World} {x : Value} {bytes n : Nat} {f : Nat → Value} (h : Sl w x bytes n f) (T E : TypeId) (hT : Tryz.prog.underlying T = some (.slice E)) (hone : ∀ i, (f i).oneCell' = true) : _root_.Go.Src Tryz.prog 1 T x n ((List.range n).map f) w := by
  obtain ⟨a, c, rfl, h1, hm, h2, hc⟩ := h
  by_cases hn : 0 < n
  · obtain ⟨b, off, rfl, -, hcc⟩ := hc hn
    refine _root_.Go.Src.ofSlice w hT ⟨b, off, none⟩ _ c _ (by simp) (fun j u hu => ?_) (fun u hu => ?_)
    · have hj : j < n := by have := (List.getElem?_eq_some_iff.1 hu).1; simpa using this
      rw [Addr.add_lit, hcc j hj, ← hu]
      simp [hj]
    · obtain ⟨z, -, rfl⟩ := List.mem_map.1 hu
      exact hone z
  · obtain rfl : n = 0 := by omega
    cases a with
    | none => exact _root_.Go.Src.ofNil w hT c
    | some a => exact _root_.Go.Src.ofSlice w hT a 0 c [] (by simp) (fun j u hu => by simp at hu) (fun u hu => by simp at hu)

theorem run_append0 {T E : TypeId} {i : TypeInfo} {z : Value} (hT : Tryz.prog.underlying T = some (.slice E)) (hi : Tryz.prog.info? E = some i) (hz : i.zero = some z) (hs : i.size = 1) (hzc : z.cells = #[z]) (ty : TypeId) (w : World) (g0 : Nat) (hg : w.heap[g0]? = some (.cells #[] E (0, 0)))
    (x : Value) (n : Nat) (f : Nat → Value) (hx : Sl w x i.bytes n f) (hone : ∀ j, (f j).oneCell' = true) :
    ∃ a c w', (Builtin.append_ #[T, T] ty #[.slice (some ⟨g0, 0, none⟩) 0 0, x]).run Tryz.prog w = .ok (.slice a n c) w' ∧ w'.ownsRow g0 E 1 (.slice a n c) n ((List.range n).map f) ∧ Below w.heap.size w w' := by
  have hlt : g0 < w.heap.size := (Array.getElem?_eq_some_iff.1 hg).1
  have hl : n * i.bytes ≤ 140737488351232 ∧ n ≤ maxLen := by obtain ⟨a, c, e, h1, h2, h3, -⟩ := hx; exact ⟨h3, by omega⟩
  have hsrc := hx.srcG T E hT hone
  rw [← hs] at hsrc
  have zc : ∀ n, (Builtin.zeroCells z.cells n).size = n := fun n => by simp [Builtin.zeroCells, hzc]
  by_cases h0 : n = 0
  · subst h0
    refine ⟨some ⟨g0, 0, none⟩, 0, w, ?_, ⟨by simp, .inr ⟨g0, 0, #[], rfl, Nat.le_refl _, hg, Nat.le_refl _, by unfold maxLen; omega, by simp, by simp⟩⟩, Below.refl _ _⟩
    have h0 : (Builtin.firstCells i.size 0 x).run Tryz.prog w = .ok #[] w := hsrc.cells
    simp [Builtin.append_, run_underlying hT, sizeOf, typeInfo, hi, hsrc.len, h0, storeCells]
  · have hr := run_append_grow_src (P := Tryz.prog) w T T ty E i z hT hi hz (some ⟨g0, 0, none⟩) 0 0 [] (run_firstCells_some (P := Tryz.prog) w.drew i.size 0 ⟨g0, 0, none⟩ 0 0 [] (by simp) (fun j u hu => by simp at hu)) x n _ hsrc (by omega) (by unfold maxLen at hl; omega) (growslice_fits (by omega) (Nat.le_trans (Nat.le_of_eq (by rw [Nat.zero_add])) (Nat.le_trans hl.1 (by omega))))
    have hge := grownCap_ge w (0 + n) 0 E
    simp only [Nat.zero_add, List.nil_append] at hr hge
    have hgm := grownCap_le_maxLen w n 0 E (by omega)
    refine ⟨_, _, _, hr, ⟨by simp, .inr ⟨w.heap.size, 0 + grownCap w n 0 E, _, by rw [Nat.zero_add], by omega, heap_alloc_new w.drew _, by omega, by omega, ?_, ?_⟩⟩, ((Below.refl _ _).drew).alloc (Nat.le_refl _) _⟩
    · simp only [Array.size_append, List.size_toArray, List.length_map, List.length_range, zc]; omega
    · rw [Nat.mul_one, Array.toList_append]
      simp

theorem wpList_append0 {ops : Array Oper} {rest : List Oper} {o : Oper} {a : Act} {w : World} {Q : Exit → Act → World → Prop} {T E : TypeId} {i : TypeInfo} {z : Value} (hgd : o.guard = none) (s x : Operand)
    (ho : o.op = .call { callee := .builtin .append, args := #[s, x], argTypes := #[T, T] }) (hT : Tryz.prog.underlying T = some (.slice E)) (hi : Tryz.prog.info? E = some i) (hz : i.zero = some z) (hs : i.size = 1) (hzc : z.cells = #[z])
    (g0 : Nat) (hg : w.heap[g0]? = some (.cells #[] E (0, 0))) (y : Value) (n : Nat) (f : Nat → Value) (hsv : a.eval s = .slice (some ⟨g0, 0, none⟩) 0 0) (hxv : a.eval x = y) (hx : Sl w y i.bytes n f) (hone : ∀ j, (f j).oneCell' = true)
    (hK : ∀ ad c w', w'.ownsRow g0 E 1 (.slice ad n c) n ((List.range n).map f) → Below w.heap.size w w' → wpList Tryz.prog ops Q rest (a.put o.dst (.slice ad n c)) w') : wpList Tryz.prog ops Q (o :: rest) a w :=
  wpList_plain hgd fun _ hK' => by
    obtain ⟨ad, c, w', hr, h2, h3⟩ := run_append0 hT hi hz hs hzc o.type w g0 hg y n f hx hone
    unfold Oper.wp execOp
    simp only [ho, resolve, invoke, builtin, Sem.run_bind, Sem.run_pure, Result.andThen_ok, List.map_toArray, List.map_cons, List.map_nil, hsv, hxv, hr]
    exact hK' _ _ (hK ad c w' h2 h3)

theorem ownsRow_base {base : Nat} {e : TypeId} {size n : Nat} {W : World} {v : Value} {xs : List Value} (h : W.ownsRow base e size v n xs) : ∀ g, v.ownBlock = some g → base ≤ g := fun g ej => by
  rcases h.2 with ⟨rfl, _⟩ | ⟨g', cap, cur, rfl, hb, _, _⟩
  · simp [Value.ownBlock] at ej
  · obtain rfl : g' = g := by simpa [Value.ownBlock] using ej
    exact hb

/-- Strings with one more. -/
theorem strs_push {base : Nat} {w : World} {v : Value} {l : List ByteArray} {x : ByteArray} (h : w.ownsRow base 9 1 v (l.length + 1) ((List.range l.length).map (fun i => Value.string (ixS l i)) ++ [.string x])) (hl : (l.length + 1) * 16 ≤ 140737488351232) (hs : ∀ i, (ixS l i).size ≤ 140737488351232) (hx : x.size ≤ 140737488351232) : OwnS base w v (l ++ [x]) := by
  have e : (List.range l.length).map (fun i => Value.string (ixS l i)) ++ [.string x] = (List.range (l ++ [x]).length).map (fun i => Value.string (ixS (l ++ [x]) i)) := by
    rw [List.length_append, List.length_singleton, List.range_succ, List.map_append, List.map_singleton]
    congr 1
    · refine List.map_congr_left fun i hi => ?_
      have hi := List.mem_range.1 hi
      unfold ixS
      rw [List.getD_eq_getElem?_getD, List.getD_eq_getElem?_getD, List.getElem?_append_left hi]
    · unfold ixS
      rw [List.getD_eq_getElem?_getD, List.getElem?_append_right (Nat.le_refl _)]
      simp
  refine ⟨⟨?_, by simpa using hl⟩, fun i => ?_⟩
  · rw [e] at h
    simpa using h
  · unfold ixS at hs ⊢
    rw [List.getD_eq_getElem?_getD]
    by_cases hi : i < l.length
    · have := hs i
      rw [List.getElem?_append_left hi]
      simpa [List.getD_eq_getElem?_getD] using this
    · by_cases e2 : i = l.length
      · subst e2
        rw [List.getElem?_append_right (Nat.le_refl _)]
        simpa using hx
      · rw [List.getElem?_eq_none (by simp; omega)]
        simp [ByteArray.size]

end Go.Proofs.YthclpkhaenaknaaGreatDoor

/- complete.Vars: its contract. -/
namespace Go.Proofs.YthclpkhaenaknaaGreatDoor
open Go.RowKit

/-- The number of variables. -/
def varsI (p : GP) : Int := if validE p = 0 then p.n + p.rules.length else 0

theorem varsI_any (v : Value) (p : GP) (w : World) (h : ProgIs w v p) :
    Calls Tryz.prog 19 #[v] w fun e w' => e = .returned (.int .i64 (varsI p)) ∧ Below w.heap.size w w' := by
  have h0 := h
  obtain ⟨vn, vs, vr, vm, rfl, hn, hnames, hshown, hrules, hmin⟩ := h
  have hal := bal (Below.refl w.heap.size w) (.cells #[.int .i64 p.n, vn, vs, vr, vm] 27)
  have HP := Lib.hid (h0.below hal)
  obtain ⟨a1, c1, rfl, -, hl1, -, hcell⟩ := hrules.form
  clear h0 hnames hshown hmin hrules hcell
  by_cases hv : validE p = 0
  · have hV := validP hv
    have hvn := hV.n
    have hvr := hV.rules
    have hve : (validE p != 0) = false := by simp [hv]
    have HF : Hid (varsI p = p.n + p.rules.length) := Lib.hid (if_pos hv)
    clear hv hV
    go_enter Tryz.func19, Tryz.ntmps19
    go_wp2_with (go_at_call 17; refine (valid_any _ p _ HP.out).mono ?_; rintro e w1 ⟨rfl, hb1⟩; have hc1 := bcell hb1; have hz1 : w.heap.size < w1.heap.size := (by have := hb1.size; simp at this; omega))
    go_ret
    exact ⟨ret_int HF.out.symm, bon hal hb1⟩
  · have hve : (validE p != 0) = true := by simp [hv]
    have HF : Hid (varsI p = 0) := Lib.hid (if_neg hv)
    clear hv
    go_enter Tryz.func19, Tryz.ntmps19
    go_wp2_with (go_at_call 17; refine (valid_any _ p _ HP.out).mono ?_; rintro e w1 ⟨rfl, hb1⟩)
    go_ret
    exact ⟨ret_int HF.out.symm, bon hal hb1⟩

end Go.Proofs.YthclpkhaenaknaaGreatDoor
