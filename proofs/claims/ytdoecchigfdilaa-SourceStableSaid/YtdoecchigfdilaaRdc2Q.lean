/- reduct.positive: the walk. -/
import Derived.Test.YtdoecchigfdilaaRdc1Q
import Derived.Laws.ResultCell
import Derived.Laws.Rows
import Derived.Deep.RegionLaw
namespace Go.Proofs.Ytdoecchigfdilaa
open Go.RowKit
attribute [local go_sem ↓] Go.wp_at_zero Go.wp_at_succ


theorem results_cell_row2 {P : Program} {fn : Func} {p u : Tmp} {ty : TypeId} (h : fn.results = #[.cell p ty, .tmp u]) (tmps : Array Value) (w : World) (g : Nat) (t : TypeId) (cs : Array Value) (fr : Nat × Nat) (d : TypeDesc)
    (hp : tmps.getD p undef = .pointer (some ⟨g, 0, none⟩)) (hg : w.heap[g]? = some (.cells cs t fr))
    (hu : P.underlying ty = some d) (hd : (match d with | .struct _ | .array _ _ => true | _ => false) = true) (hi : (P.info? ty).map (·.size) = some cs.size) :
    (results fn tmps).run P w = .ok (.tuple #[.agg cs, tmps.getD u undef]) w := by
  rw [results_cell_tmp h, hp]
  simp [asAddr, Result.andThen, run_loadVar_row w g t ty cs fr d hg hu hd hi]

theorem set6_blk {w : World} {b : Nat} {c : List Value} {t : TypeId} (h : Blk w b c t) (hc : c.length = 6) (v0 v1 v2 v3 v4 v5 : Value) :
    Blk ((((((w.setCell ⟨b, 0, none⟩ v0).setCell ⟨b, 1, none⟩ v1).setCell ⟨b, 2, none⟩ v2).setCell ⟨b, 3, none⟩ v3).setCell ⟨b, 4, none⟩ v4).setCell ⟨b, 5, none⟩ v5) b [v0, v1, v2, v3, v4, v5] t := by
  have := ((((((h.set 0 v0).set 1 v1).set 2 v2).set 3 v3).set 4 v4).set 5 v5)
  match c, hc with
  | [a0, a1, a2, a3, a4, a5], _ => exact this

theorem set6_below {w0 w : World} {b : Nat} (h : Below w0.heap.size w0 w) (hb : w0.heap.size ≤ b) (v0 v1 v2 v3 v4 v5 : Value) :
    Below w0.heap.size w0 ((((((w.setCell ⟨b, 0, none⟩ v0).setCell ⟨b, 1, none⟩ v1).setCell ⟨b, 2, none⟩ v2).setCell ⟨b, 3, none⟩ v3).setCell ⟨b, 4, none⟩ v4).setCell ⟨b, 5, none⟩ v5) :=
  (((((h.setCell (p := ⟨b, 0, none⟩) hb _).setCell (p := ⟨b, 1, none⟩) hb _).setCell (p := ⟨b, 2, none⟩) hb _).setCell (p := ⟨b, 3, none⟩) hb _).setCell (p := ⟨b, 4, none⟩) hb _).setCell (p := ⟨b, 5, none⟩) hb _

theorem set6_row {base : Nat} {w : World} {v : Value} {l : List Int} (h : QRow base w v l) {b : Nat} (hb : b < base) (v0 v1 v2 v3 v4 v5 : Value) :
    QRow base ((((((w.setCell ⟨b, 0, none⟩ v0).setCell ⟨b, 1, none⟩ v1).setCell ⟨b, 2, none⟩ v2).setCell ⟨b, 3, none⟩ v3).setCell ⟨b, 4, none⟩ v4).setCell ⟨b, 5, none⟩ v5) v l :=
  (((((h.setFar 0 v0 hb).setFar 1 v1 hb).setFar 2 v2 hb).setFar 3 v3 hb).setFar 4 v4 hb).setFar 5 v5 hb

theorem PSt.start (r : GR) (m : List Int) (w : World) (vh vb vw : Value) : PSt r m w 0 vh vb vw (.slice none 0 0) (.slice none 0 0) ((((w.alloc (.cells #[.bool r.choice, vh, .bool r.sum, .int .i64 r.bound, vb, vw] 41)).alloc (.cells #[.bool false, .slice none 0 0, .bool false, .int .i64 0, .slice none 0 0, .slice none 0 0] 41)).alloc (.cells #[.bool false, .slice none 0 0, .bool r.sum, .int .i64 r.bound, .slice none 0 0, .slice none 0 0] 41))) := by
  refine ⟨(by repeat first | (refine Blk.newAt _ _ _ ?_; first | rfl | (simp only [World.size_alloc]; done) | (simp only [World.size_alloc]; omega)) | refine Blk.alloc ?_ _), (by repeat first | (refine Blk.newAt _ _ _ ?_; first | rfl | (simp only [World.size_alloc]; done) | (simp only [World.size_alloc]; omega)) | refine Blk.alloc ?_ _), ?_, QRow.nil _ _, ?_, (fun i e => by cases e), (by (repeat first | exact Below.refl _ _ | (refine Below.setCell ?_ (by first | omega | (simp; done) | (simp; omega)) _) | (refine bal ?_ _))), by simp⟩
  · have e : (redAt m r 0).bound = r.bound := by unfold redAt; split <;> simp [negW]
    rw [e]; exact (by repeat first | (refine Blk.newAt _ _ _ ?_; first | rfl | (simp only [World.size_alloc]; done) | (simp only [World.size_alloc]; omega)) | refine Blk.alloc ?_ _)
  · have : (if r.sum then sndL (posP r 0) else []) = [] := by split <;> rfl
    rw [this]; exact QRow.nil _ _

/-- One literal further: the body has grown. -/
theorem PSt.grown1 {r : GR} {m : List Int} {w w4 : World} {k : Nat} {vh vb0 vw0 va vb v4 : Value} (hs : r.sum = false) (hn : posP r (k + 1) = posP r k ++ [(ix r.body k, ix r.w k)])
    (h : Blk w4 w.heap.size [.bool r.choice, vh, .bool r.sum, .int .i64 r.bound, vb0, vw0] 41 ∧ Blk w4 (w.heap.size + 1) zR 41 ∧
      Blk w4 (w.heap.size + 1 + 1) [.bool false, .slice none 0 0, .bool r.sum, .int .i64 (redAt m r k).bound, va, vb] 41 ∧ QRow (w.heap.size + 1 + 1 + 1) w4 vb (if r.sum then sndL (posP r k) else []) ∧ Below w.heap.size w w4 ∧ w.heap.size + 1 + 1 + 1 ≤ w4.heap.size)
    (hq : QRow (w.heap.size + 1 + 1 + 1) w4 v4 (fstL (posP r k) ++ [ix r.body k])) (hap : ∀ i, v4.ownBlock = some i → vb.ownBlock ≠ some i) :
    PSt r m w (k + 1) vh vb0 vw0 v4 vb (w4.setCell ⟨w.heap.size + 1 + 1, 4, none⟩ v4) := by
  obtain ⟨h1, h2, h3, h4, h5, h6⟩ := h
  have e1 : (redAt m r (k + 1)).bound = (redAt m r k).bound := by unfold redAt; rw [hs]; rfl
  refine ⟨h1.setOther _ _ (by omega), h2.setOther _ _ (by omega), ?_, ?_, ?_, hap, h5.setCell (p := ⟨w.heap.size + 1 + 1, 4, none⟩) (by show w.heap.size ≤ w.heap.size + 1 + 1; omega) _, by rw [size_set]; omega⟩
  · rw [e1]; exact h3.set 4 _
  · rw [hn, fstL_snoc]; exact hq.setFar _ _ (by omega)
  · rw [hs] at h4 ⊢
    exact h4.setFar _ _ (by omega)

theorem PSt.next {r : GR} {m : List Int} {w wx : World} {k : Nat} {vh vb0 vw0 va vb : Value} (h : PSt r m w k vh vb0 vw0 va vb wx) (h0 : ¬ 0 < ix r.body k) (hb : (redAt m r (k + 1)).bound = (redAt m r k).bound) : PSt r m w (k + 1) vh vb0 vw0 va vb wx := by
  obtain ⟨h1, h2, h3, h4, h5, h6, h7, h8⟩ := h
  have e : posP r (k + 1) = posP r k := pos_skip (m := m) h0
  exact ⟨h1, h2, by rw [hb]; exact h3, by rw [e]; exact h4, by rw [e]; exact h5, h6, h7, h8⟩

theorem red_bound0 {m : List Int} {r : GR} (hs : r.sum = false) (k : Nat) : (redAt m r k).bound = r.bound := by unfold redAt; rw [hs]; simp

theorem QRow.nil_of {base : Nat} {w : World} {v : Value} (h : QRow base w v []) (hn : v.ownBlock = none) : v = .slice none 0 0 := by
  rcases h.2 with ⟨rfl, _⟩ | ⟨g, off, cap, cur, rfl, _⟩
  · rfl
  · simp [Value.ownBlock] at hn

theorem posPost_none {r : GR} {m : List Int} {w w' : World} {e : Ending} (h : redB m r = none) (he : e = .returned (.tuple #[.agg #[.bool false, .slice none 0 0, .bool false, .int .i64 0, .slice none 0 0, .slice none 0 0], .bool false])) (hb : Below w.heap.size w w') : PosPost r m w e w' := by
  unfold PosPost; rw [h]; exact ⟨he, hb⟩

theorem posPost_some {r x : GR} {m : List Int} {w w' : World} {e : Ending} {va vb : Value} (base : Nat) (hbase : w.heap.size ≤ base) (h : redB m r = some x) (he : e = .returned (.tuple #[.agg #[.bool false, .slice none 0 0, .bool x.sum, .int .i64 x.bound, va, vb], .bool true]))
    (ha : QRow base w' va x.body) (hw : QRow base w' vb x.w) (hb : Below w.heap.size w w') : PosPost r m w e w' := by
  unfold PosPost; rw [h]; exact ⟨va, vb, he, ha.mono hbase, hw.mono hbase, hb⟩

set_option maxHeartbeats 4000000 in
set_option maxRecDepth 100000 in
theorem positive_off (v : Value) (r : GR) (m : List Int) (mb : Nat) (n : Int) (w : World) (hr : RuleIs w v r) (h : InM w mb m) (hW : BodyW r n) (hs : r.sum = false) :
    Calls Try.prog 104 #[v, .func (.func 93) #[] #[.pointer (some ⟨mb, 0, none⟩)]] w (PosPost r m w) := by
  obtain ⟨vh, vb, vw, rfl, hsl⟩ := hr
  obtain ⟨a2, c2, rfl, -, hl2, -, hcb⟩ := hsl.body.form
  obtain ⟨a3, c3, rfl, -, hl3, -, hcw⟩ := hsl.wts.form
  have hbd := hsl.bound
  unfold InI at hbd
  have hlit : Hid (∀ j, j < r.body.length → ix r.body j ≠ 0 ∧ -4000 ≤ ix r.body j ∧ ix r.body j ≤ 4000) := Lib.hid (fun j hj => by have := hW.lit j hj; have := hW.v.rng; omega)
  have hlen := hW.v.ok.len
  have hb1 := hW.bound
  have hb0 := hW.v.bound
  have HWW := Lib.hid hW
  have HIN := Lib.hid h
  have HCB := Lib.hid hcb
  have HCW := Lib.hid hcw
  obtain ⟨ah, ch, rfl, -⟩ := hsl.head.form
  have HST := Lib.hid (PSt.start r m w (.slice ah r.head.length ch) (.slice a2 r.body.length c2) (.slice a3 r.w.length c3))
  clear h hcb hcw hsl
  have HS := Lib.hid hs
  rw [hs] at HST ⊢
  clear hs
  go_enter Try.func104, Try.ntmps104
  go_upto_region 2 with fail
  have kx := HST.out.box.cell
  rw [HS.out] at kx
  generalize ((((w.alloc (.cells #[.bool r.choice, .slice ah r.head.length ch, .bool false, .int .i64 r.bound, .slice a2 r.body.length c2, .slice a3 r.w.length c3] 41)).alloc (.cells #[.bool false, .slice none 0 0, .bool false, .int .i64 0, .slice none 0 0, .slice none 0 0] 41)).alloc (.cells #[.bool false, .slice none 0 0, .bool false, .int .i64 r.bound, .slice none 0 0, .slice none 0 0] 41))) = W0 at *
  go_wp2
  clear kx
  go_loopw [17] (fun i wx => PRel r m w (.slice ah r.head.length ch) (.slice a2 r.body.length c2) (.slice a3 r.w.length c3) i wx) (fun i _ => r.body.length - (intOf i).toNat)
  case atStart => exact ⟨0, _, _, Nat.zero_le _, rfl, HST.out, Lib.hid (fun _ => rfl)⟩
  case round =>
    obtain ⟨k, va, vb, hk, rfl, hp, HNF⟩ := hrel
    have HP := Lib.hid hp
    obtain ⟨hbx, hres, hout, hva, hvb, hap, hbl, hsz⟩ := hp
    rw [HS.out] at hbx hout
    have kx := hbx.cell
    have ky := hres.cell
    have fy := hres.free
    have kz := hout.cell
    have fz := hout.free
    have HINR := Lib.hid (HIN.out.below hbl)
    have HQA := Lib.hid hva
    have HQB := Lib.hid hvb
    have HAP := Lib.hid hap
    have HRES := Lib.hid hres
    have HBL := Lib.hid hbl
    unfold zR at ky
    have H6 : Hid (w.heap.size + 1 + 1 + 1 ≤ (wr.alloc (.cells #[.int .i64 (ix r.body k)] 3)).heap.size) := Lib.hid (by simp; omega)
    obtain ⟨na, ca, rfl⟩ : ∃ na ca, va = .slice na (fstL (posP r k)).length ca := by obtain ⟨a, c, e⟩ := hva.slen; exact ⟨a, c, e⟩
    have hpl : (fstL (posP r k)).length ≤ k := by rw [fstL_len]; exact posP_len r k
    obtain ⟨nb, mbn, cb, rfl⟩ := hvb.form
    clear hbx hres hout hva hvb hap
    by_cases hlt : k < r.body.length
    · obtain ⟨b, off, rfl, hbb, hc⟩ := HCB.out (by omega)
      have hcx : wr.cell? ⟨b, off + k, none⟩ = some (.int .i64 (ix r.body k)) := (bcell hbl _ _ hbb).trans (hc k hlt)
      have hl := hlit.out k hlt
      clear hc hbl
      by_cases h0 : 0 < ix r.body k
      · have HPT : Hid (posP r (k + 1) = posP r k ++ [(ix r.body k, ix r.w k)]) := Lib.hid (pos_take (m := m) h0)
        have hxI : InI (ix r.body k) := by unfold InI; omega
        have hap8 : ((fstL (posP r k)).length + 1) * 8 ≤ 140737488351232 := by omega
        clear ky fy
        go_wp2_with (at_builtin; (refine wpList_appendQ rfl _ _ 23 Try.underlying23 rfl (w.heap.size + 1 + 1 + 1) _ (fstL (posP r k)) (ix r.body k) rfl (HQA.out.kept (w' := wr.alloc (.cells #[.int .i64 (ix r.body k)] 3)) (fun i h1 h2 _ => Below.heap_alloc _ _ _ h2)) wr.heap.size 1 rfl (Blk.new wr [.int .i64 (ix r.body k)] _) hxI hap8 H6.out ?_); intro v4 w4 hq4 hg4 hl4; have hpp := HP.out.pushed hg4; have HPP := Lib.hid hpp; have HQ4 := Lib.hid hq4; have HL4 := Lib.hid (HP.out.apart4 hl4); obtain ⟨a4, n4, c4, rfl⟩ := hq4.form; have k4 := hpp.2.2.1.cell; have f4 := hpp.2.2.1.free; have x4 := hpp.1.cell; rw [HS.out] at k4 x4; clear hpp hq4 hg4 hl4)
        first
          | (go_roundw
             case rel => (exact ⟨k + 1, _, _, hlt, by go_num, PSt.grown1 HS.out HPT.out HPP.out HQ4.out HL4.out, Lib.hid (negF_next HNF.out (fun h => by omega))⟩)
             case measure => (simp [intOf]; omega))
          | (refine ⟨?_, ?_⟩
             · (exact ⟨k + 1, _, _, hlt, by go_num, PSt.grown1 HS.out HPT.out HPP.out HQ4.out HL4.out, Lib.hid (negF_next HNF.out (fun h => by omega))⟩)
             · (simp [intOf]; omega))
      · have HBD : Hid ((redAt m r (k + 1)).bound = (redAt m r k).bound) := Lib.hid (by rw [red_bound0 HS.out, red_bound0 HS.out])
        cases hmb : decide (-(ix r.body k) ∈ m) with
        | false =>
          have HMB := Lib.hid hmb
          clear hmb
          go_wp2_with (go_at_call 93; (with_reducible refine (memb1_any _ m _ _ HINR.out).mono ?_); rintro e w1 ⟨e1, rfl⟩; rw [HMB.out] at e1; subst e1)
          first
            | (go_roundw
               case rel => (exact ⟨k + 1, _, _, hlt, by go_num, HP.out.next (by omega) HBD.out, Lib.hid (negF_next HNF.out (fun h => by have := of_decide_eq_false HMB.out; exact this h.2))⟩)
               case measure => (simp [intOf]; omega))
            | (refine ⟨?_, ?_⟩
               · (exact ⟨k + 1, _, _, hlt, by go_num, HP.out.next (by omega) HBD.out, Lib.hid (negF_next HNF.out (fun h => by have := of_decide_eq_false HMB.out; exact this h.2))⟩)
               · (simp [intOf]; omega))
        | true =>
          have HMB := Lib.hid hmb
          have HRED : Hid (redB m r = none) := Lib.hid (by unfold redB; rw [if_pos ⟨HS.out, by unfold negF; exact anyR_true k hlt (by rw [decide_eq_true (show ix r.body k < 0 by omega), hmb]; rfl)⟩])
          clear hmb
          go_wp2_with (go_at_call 93; (with_reducible refine (memb1_any _ m _ _ HINR.out).mono ?_); rintro e w1 ⟨e1, rfl⟩; rw [HMB.out] at e1; subst e1)
          (try simp only [Exit.inBlock, Exit.then])
          refine bodyPost_ret (results_cell_row2 rfl _ _ (w.heap.size + 1) 41 _ (0, 0) _ rfl (set6_blk HRES.out rfl _ _ _ _ _ _) Try.underlying41 rfl (by kernel_rfl)) rfl ?_
          exact posPost_none HRED.out rfl (set6_below HBL.out (by omega) _ _ _ _ _ _)
    · obtain rfl : k = r.body.length := by omega
      go_wp2
      (try simp only [Exit.inBlock, Exit.then])
      refine bodyPost_ret (results_cell_row2 rfl _ _ (w.heap.size + 1) 41 _ (0, 0) _ rfl (set6_blk HRES.out rfl _ _ _ _ _ _) Try.underlying41 rfl (by kernel_rfl)) rfl ?_
      exact posPost_some (w.heap.size + 1 + 1 + 1) (by omega) (red_end0 HS.out HNF.out) (by rw [show (redAt m r r.body.length).sum = false from HS.out]; rfl) (set6_row HQA.out (by omega) _ _ _ _ _ _) (set6_row HQB.out (by omega) _ _ _ _ _ _) (set6_below HBL.out (by omega) _ _ _ _ _ _)

theorem red_bound1 {m : List Int} {r : GR} (hs : r.sum = true) (k : Nat) : (redAt m r k).bound = r.bound - negW m r k := by unfold redAt; rw [hs]; rfl
theorem red_boundN {m : List Int} {r : GR} (hs : r.sum = true) {k : Nat} (h : ¬ (ix r.body k < 0 ∧ -(ix r.body k) ∉ m)) : (redAt m r (k + 1)).bound = (redAt m r k).bound := by
  rw [red_bound1 hs, red_bound1 hs, negW, if_neg h, Int.add_zero]
theorem red_boundM {m : List Int} {r : GR} (hs : r.sum = true) {k : Nat} (h1 : ix r.body k < 0) (h2 : -(ix r.body k) ∉ m) : (redAt m r (k + 1)).bound = (redAt m r k).bound - ix r.w k := by
  rw [red_bound1 hs, red_bound1 hs, negW, if_pos ⟨h1, h2⟩]; omega

theorem PSt.sub {r : GR} {m : List Int} {w wx : World} {k : Nat} {x : Int} {vh vb0 vw0 va vb : Value} (h : PSt r m w k vh vb0 vw0 va vb wx) (h0 : ¬ 0 < ix r.body k) (hb : (redAt m r (k + 1)).bound = x) :
    PSt r m w (k + 1) vh vb0 vw0 va vb (wx.setCell ⟨w.heap.size + 1 + 1, 3, none⟩ (.int .i64 x)) := by
  obtain ⟨h1, h2, h3, h4, h5, h6, h7, h8⟩ := h
  have e : posP r (k + 1) = posP r k := pos_skip (m := m) h0
  refine ⟨h1.setOther _ _ (by omega), h2.setOther _ _ (by omega), ?_, ?_, ?_, h6, h7.setCell (p := ⟨w.heap.size + 1 + 1, 3, none⟩) (by show w.heap.size ≤ w.heap.size + 1 + 1; omega) _, by rw [size_set]; exact h8⟩
  · rw [hb]; exact h3.set 3 _
  · rw [e]; exact h4.setFar _ _ (by omega)
  · rw [e]; exact h5.setFar _ _ (by omega)

theorem grown_undrew {w w' : World} {r : Option Nat} (h : w.drew.grownBy w' r) : w.grownBy w' r := ⟨h.os, h.tape, h.output, h.size, h.block⟩

theorem PSt.mid {r : GR} {m : List Int} {w w4 : World} {k : Nat} {vh vb0 vw0 va vb v4 : Value} {x : Int}
    (h : Blk w4 w.heap.size [.bool r.choice, vh, .bool r.sum, .int .i64 r.bound, vb0, vw0] 41 ∧ Blk w4 (w.heap.size + 1) zR 41 ∧
      Blk w4 (w.heap.size + 1 + 1) [.bool false, .slice none 0 0, .bool r.sum, .int .i64 (redAt m r k).bound, va, vb] 41 ∧ QRow (w.heap.size + 1 + 1 + 1) w4 vb (if r.sum then sndL (posP r k) else []) ∧ Below w.heap.size w w4 ∧ w.heap.size + 1 + 1 + 1 ≤ w4.heap.size)
    (hq : QRow (w.heap.size + 1 + 1 + 1) w4 v4 (fstL (posP r k) ++ [x])) :
    (Blk (w4.setCell ⟨w.heap.size + 1 + 1, 4, none⟩ v4) w.heap.size [.bool r.choice, vh, .bool r.sum, .int .i64 r.bound, vb0, vw0] 41 ∧ Blk (w4.setCell ⟨w.heap.size + 1 + 1, 4, none⟩ v4) (w.heap.size + 1) zR 41) ∧
      Blk (w4.setCell ⟨w.heap.size + 1 + 1, 4, none⟩ v4) (w.heap.size + 1 + 1) [.bool false, .slice none 0 0, .bool r.sum, .int .i64 (redAt m r k).bound, v4, vb] 41 ∧
      QRow (w.heap.size + 1 + 1 + 1) (w4.setCell ⟨w.heap.size + 1 + 1, 4, none⟩ v4) v4 (fstL (posP r k) ++ [x]) ∧ QRow (w.heap.size + 1 + 1 + 1) (w4.setCell ⟨w.heap.size + 1 + 1, 4, none⟩ v4) vb (if r.sum then sndL (posP r k) else []) ∧
      Below w.heap.size w (w4.setCell ⟨w.heap.size + 1 + 1, 4, none⟩ v4) ∧ w.heap.size + 1 + 1 + 1 ≤ (w4.setCell ⟨w.heap.size + 1 + 1, 4, none⟩ v4).heap.size := by
  obtain ⟨h1, h2, h3, h4, h5, h6⟩ := h
  exact ⟨⟨h1.setOther _ _ (by omega), h2.setOther _ _ (by omega)⟩, h3.set 4 _, hq.setFar _ _ (by omega), h4.setFar _ _ (by omega), h5.setCell (p := ⟨w.heap.size + 1 + 1, 4, none⟩) (by show w.heap.size ≤ w.heap.size + 1 + 1; omega) _, by rw [size_set]; omega⟩

theorem wsum_pos {l : List Int} {n : Nat} (h : ∀ k, k < n → 1 ≤ ix l k ∧ ix l k ≤ 1048576 - sumTo l k) : ∀ k, k ≤ n → 0 ≤ sumTo l k
  | 0, _ => by simp [sumTo]
  | k + 1, hk => by
    have ih := wsum_pos h k (by omega)
    have := h k (by omega)
    unfold sumTo; omega

/-- A literal and its weight have been appended. -/
theorem PSt.grown2 {r : GR} {m : List Int} {w w4 w5 : World} {k : Nat} {vh vb0 vw0 v4 vb v5 : Value} {o : Obj} (hs : r.sum = true) (hn : posP r (k + 1) = posP r k ++ [(ix r.body k, ix r.w k)])
    (h : Blk w4 w.heap.size [.bool r.choice, vh, .bool r.sum, .int .i64 r.bound, vb0, vw0] 41 ∧ Blk w4 (w.heap.size + 1) zR 41)
    (ho : Blk w4 (w.heap.size + 1 + 1) [.bool false, .slice none 0 0, .bool r.sum, .int .i64 (redAt m r k).bound, v4, vb] 41)
    (hq4 : QRow (w.heap.size + 1 + 1 + 1) w4 v4 (fstL (posP r k) ++ [ix r.body k])) (hqb : QRow (w.heap.size + 1 + 1 + 1) w4 vb (sndL (posP r k))) (hap : ∀ i, v4.ownBlock = some i → vb.ownBlock ≠ some i) (hbl : Below w.heap.size w w4) (hsz : w.heap.size + 1 + 1 + 1 ≤ w4.heap.size)
    (hx : (redAt m r (k + 1)).bound = (redAt m r k).bound)
    (hg : (w4.alloc o).grownBy w5 vb.ownBlock) (hl : v5.ownBlock = vb.ownBlock ∨ v5.ownBlock = some (w4.alloc o).heap.size) (hq5 : QRow (w.heap.size + 1 + 1 + 1) w5 v5 (sndL (posP r k) ++ [ix r.w k])) :
    PSt r m w (k + 1) vh vb0 vw0 v4 v5 (w5.setCell ⟨w.heap.size + 1 + 1, 5, none⟩ v5) := by
  obtain ⟨h1, h2, h3, h4, h5, h6⟩ := PSt.pushed2 h ho hq4 hqb hap hbl hsz hg
  refine ⟨h1.setOther _ _ (by omega), h2.setOther _ _ (by omega), ?_, ?_, ?_, ?_, h5.setCell (p := ⟨w.heap.size + 1 + 1, 5, none⟩) (by show w.heap.size ≤ w.heap.size + 1 + 1; omega) _, by rw [size_set]; omega⟩
  · rw [hx]; exact h3.set 5 _
  · rw [hn, fstL_snoc]; exact h4.setFar _ _ (by omega)
  · rw [hs, if_pos rfl, hn, sndL_snoc]; exact hq5.setFar _ _ (by omega)
  · intro i e e5
    rcases hl with hl | hl
    · exact hap i e (hl ▸ e5)
    · rw [hl] at e5
      have := Option.some.inj e5
      simp only [World.size_alloc] at this
      exact hq4.own_ne (.inr (by omega)) e

set_option maxHeartbeats 4000000 in
set_option maxRecDepth 100000 in
theorem positive_on (v : Value) (r : GR) (m : List Int) (mb : Nat) (n : Int) (w : World) (hr : RuleIs w v r) (h : InM w mb m) (hW : BodyW r n) (hs : r.sum = true) :
    Calls Try.prog 104 #[v, .func (.func 93) #[] #[.pointer (some ⟨mb, 0, none⟩)]] w (PosPost r m w) := by
  obtain ⟨vh, vb, vw, rfl, hsl⟩ := hr
  obtain ⟨a2, c2, rfl, -, hl2, -, hcb⟩ := hsl.body.form
  obtain ⟨a3, c3, rfl, -, hl3, -, hcw⟩ := hsl.wts.form
  have hbd := hsl.bound
  unfold InI at hbd
  have hlit : Hid (∀ j, j < r.body.length → ix r.body j ≠ 0 ∧ -4000 ≤ ix r.body j ∧ ix r.body j ≤ 4000) := Lib.hid (fun j hj => by have := hW.lit j hj; have := hW.v.rng; omega)
  have hlen := hW.v.ok.len
  have hb1 := hW.bound
  have hb0 := hW.v.bound
  have HWW := Lib.hid hW
  have HIN := Lib.hid h
  have HCB := Lib.hid hcb
  have HCW := Lib.hid hcw
  obtain ⟨ah, ch, rfl, -⟩ := hsl.head.form
  have HST := Lib.hid (PSt.start r m w (.slice ah r.head.length ch) (.slice a2 r.body.length c2) (.slice a3 r.w.length c3))
  clear h hcb hcw hsl
  have HS := Lib.hid hs
  have HWL := Lib.hid (hW.wts hs).1
  have HWT : Hid (∀ k, k < r.body.length → 1 ≤ ix r.w k ∧ ix r.w k ≤ 1048576) := Lib.hid (fun k hk => by
    have h1 := (hW.wts hs).2 k hk
    have h2 := wsum_pos (hW.wts hs).2 k (by omega)
    omega)
  have HNW : Hid (∀ k, k ≤ r.body.length → 0 ≤ negW m r k ∧ negW m r k ≤ 1048576 * k) := Lib.hid (negW_le fun k hk => by have := HWT.out k hk; omega)
  rw [hs] at HST ⊢
  clear hs
  go_enter Try.func104, Try.ntmps104
  go_upto_region 2 with fail
  have kx := HST.out.box.cell
  rw [HS.out] at kx
  generalize ((((w.alloc (.cells #[.bool r.choice, .slice ah r.head.length ch, .bool true, .int .i64 r.bound, .slice a2 r.body.length c2, .slice a3 r.w.length c3] 41)).alloc (.cells #[.bool false, .slice none 0 0, .bool false, .int .i64 0, .slice none 0 0, .slice none 0 0] 41)).alloc (.cells #[.bool false, .slice none 0 0, .bool true, .int .i64 r.bound, .slice none 0 0, .slice none 0 0] 41))) = W0 at *
  go_wp2
  clear kx
  go_loopw [17] (fun i wx => PRel r m w (.slice ah r.head.length ch) (.slice a2 r.body.length c2) (.slice a3 r.w.length c3) i wx) (fun i _ => r.body.length - (intOf i).toNat)
  case atStart => exact ⟨0, _, _, Nat.zero_le _, rfl, HST.out, Lib.hid (fun _ => rfl)⟩
  case round =>
    obtain ⟨k, va, vb, hk, rfl, hp, HNF⟩ := hrel
    have HP := Lib.hid hp
    obtain ⟨hbx, hres, hout, hva, hvb, hap, hbl, hsz⟩ := hp
    rw [HS.out] at hbx hout
    have kx := hbx.cell
    have ky := hres.cell
    have fy := hres.free
    have kz := hout.cell
    have fz := hout.free
    have HINR := Lib.hid (HIN.out.below hbl)
    have HQA := Lib.hid hva
    have HQB := Lib.hid hvb
    have HAP := Lib.hid hap
    have HRES := Lib.hid hres
    have HBL := Lib.hid hbl
    unfold zR at ky
    have H6 : Hid (w.heap.size + 1 + 1 + 1 ≤ (wr.alloc (.cells #[.int .i64 (ix r.body k)] 3)).heap.size) := Lib.hid (by simp; omega)
    obtain ⟨na, ca, rfl⟩ : ∃ na ca, va = .slice na (fstL (posP r k)).length ca := by obtain ⟨a, c, e⟩ := hva.slen; exact ⟨a, c, e⟩
    have hpl : (fstL (posP r k)).length ≤ k := by rw [fstL_len]; exact posP_len r k
    obtain ⟨nb, mbn, cb, rfl⟩ := hvb.form
    clear hbx hres hout hva hvb hap
    by_cases hlt : k < r.body.length
    · obtain ⟨b, off, rfl, hbb, hc⟩ := HCB.out (by omega)
      have hcx : wr.cell? ⟨b, off + k, none⟩ = some (.int .i64 (ix r.body k)) := (bcell hbl _ _ hbb).trans (hc k hlt)
      obtain ⟨bw, offw, rfl, hbw, hcw⟩ := HCW.out (by have := HWL.out; omega)
      have hcy : wr.cell? ⟨bw, offw + k, none⟩ = some (.int .i64 (ix r.w k)) := (bcell hbl _ _ hbw).trans (hcw k (by have := HWL.out; omega))
      have HCY : Hid (∀ w', Below w.heap.size w w' → w'.cell? ⟨bw, offw + k, none⟩ = some (.int .i64 (ix r.w k))) := Lib.hid (fun w' hb => (bcell hb _ _ hbw).trans (hcw k (by have := HWL.out; omega)))
      have hl := hlit.out k hlt
      have hwk := HWT.out k hlt
      clear hc hbl hcw
      by_cases h0 : 0 < ix r.body k
      · have HPT : Hid (posP r (k + 1) = posP r k ++ [(ix r.body k, ix r.w k)]) := Lib.hid (pos_take (m := m) h0)
        have HBD : Hid ((redAt m r (k + 1)).bound = (redAt m r k).bound) := Lib.hid (red_boundN HS.out (fun h => by omega))
        have hxI : InI (ix r.body k) := by unfold InI; omega
        have hap8 : ((fstL (posP r k)).length + 1) * 8 ≤ 140737488351232 := by omega
        clear ky fy
        go_upto_region 8 with (at_builtin; (refine wpList_appendQ rfl _ _ 23 Try.underlying23 rfl (w.heap.size + 1 + 1 + 1) _ (fstL (posP r k)) (ix r.body k) rfl (HQA.out.kept (w' := wr.alloc (.cells #[.int .i64 (ix r.body k)] 3)) (fun i h1 h2 _ => Below.heap_alloc _ _ _ h2)) wr.heap.size 1 rfl (Blk.new wr [.int .i64 (ix r.body k)] _) hxI hap8 H6.out ?_); intro v4 w4 hq4 hg4 hl4; have hpp := HP.out.pushed hg4; have HPP := Lib.hid hpp; have HQ4 := Lib.hid hq4; have HL4 := Lib.hid (HP.out.apart4 hl4); obtain ⟨a4, n4, c4, rfl⟩ := hq4.form; have k4 := hpp.2.2.1.cell; have f4 := hpp.2.2.1.free; have x4 := hpp.1.cell; rw [HS.out] at k4 x4; clear hpp hq4 hg4 hl4)
        have hm5 := PSt.mid HPP.out HQ4.out
        have HM5 := Lib.hid hm5
        obtain ⟨⟨hx5, -⟩, ho5, -, -, hbl5, hsz5⟩ := hm5
        rw [HS.out] at hx5 ho5
        have kx5 := hx5.cell
        have kz5 := ho5.cell
        have fz5 := ho5.free
        have kw5 := HCY.out _ hbl5
        clear k4 f4 x4 kx kz fz hx5 ho5 hbl5
        generalize w4.setCell ⟨w.heap.size + 1 + 1, 4, none⟩ (.slice a4 n4 c4) = W5 at *
        have hki : (0 : Int) ≤ (k : Int) := Int.natCast_nonneg _
        have hkw : (k : Int) < (r.w.length : Int) := by have := HWL.out; omega
        have HQB5 : Hid (QRow (w.heap.size + 1 + 1 + 1) W5 (.slice nb mbn cb) (sndL (posP r k))) := Lib.hid (by have := HM5.out.2.2.2.1; rw [HS.out] at this; exact this)
        have hwI : InI (ix r.w k) := by unfold InI; omega
        have hap9 : ((sndL (posP r k)).length + 1) * 8 ≤ 140737488351232 := by rw [sndL_len, ← fstL_len]; omega
        have H65 : Hid (w.heap.size + 1 + 1 + 1 ≤ (W5.alloc (.cells #[.int .i64 (ix r.w k)] 3)).drew.heap.size) := Lib.hid (Nat.le_trans hsz5 (by simp))
        have ax5 := fun ob o => (bcell (bal (Below.refl _ W5) ob) w.heap.size o (by omega)).trans (kx5 o)
        have az5 := fun ob o => (bcell (bal (Below.refl _ W5) ob) (w.heap.size + 1 + 1) o (by omega)).trans (kz5 o)
        have aw5 := fun ob => HCY.out _ (bal HM5.out.2.2.2.2.1 ob)
        go_region_law
          ((refine step_appendQ rfl _ _ 23 Try.underlying23 (by rfl) (w.heap.size + 1 + 1 + 1) (.slice nb mbn cb) (sndL (posP r k)) (ix r.w k) (by rfl) (HQB5.out.kept (w' := (W5.alloc (.cells #[.int .i64 (ix r.w k)] 3)).drew) (fun i h1 h2 _ => Below.heap_alloc _ _ _ h2)) W5.heap.size 1 (by rfl) (Blk.new W5 [.int .i64 (ix r.w k)] _) hwI hap9 H65.out ?_; intro v5 w5 hq5 hg5 hl5; have hpp5 := PSt.pushed2 HM5.out.1 HM5.out.2.1 HM5.out.2.2.1 HQB5.out HL4.out HM5.out.2.2.2.2.1 HM5.out.2.2.2.2.2 (grown_undrew hg5); have HG5 := Lib.hid (grown_undrew hg5); have HQ5 := Lib.hid hq5; have HL5 := Lib.hid hl5; have x6 := hpp5.1.cell; have z6 := hpp5.2.2.1.cell; have f6 := hpp5.2.2.1.free; have w6 := HCY.out _ hpp5.2.2.2.2.1; rw [HS.out] at x6 z6; clear hpp5 hg5 hl5; obtain ⟨a5, n5, c5, rfl⟩ := hq5.form; clear hq5))
        all_goals (
          go_wp2
          first
            | (go_roundw
               case rel => (exact ⟨k + 1, _, _, hlt, by go_num, PSt.grown2 HS.out HPT.out HM5.out.1 HM5.out.2.1 HM5.out.2.2.1 HQB5.out HL4.out HM5.out.2.2.2.2.1 HM5.out.2.2.2.2.2 HBD.out HG5.out HL5.out HQ5.out, Lib.hid (negF_next HNF.out (fun h => by omega))⟩)
               case measure => (simp [intOf]; omega))
            | (refine ⟨?_, ?_⟩
               · (exact ⟨k + 1, _, _, hlt, by go_num, PSt.grown2 HS.out HPT.out HM5.out.1 HM5.out.2.1 HM5.out.2.2.1 HQB5.out HL4.out HM5.out.2.2.2.2.1 HM5.out.2.2.2.2.2 HBD.out HG5.out HL5.out HQ5.out, Lib.hid (negF_next HNF.out (fun h => by omega))⟩)
               · (simp [intOf]; omega)))
      · have hbk : -9000000000 ≤ (redAt m r k).bound ∧ (redAt m r k).bound ≤ 1048576 := by have hnk := HNW.out k hk; rw [red_bound1 (m := m) HS.out k]; omega
        cases hmb : decide (-(ix r.body k) ∈ m) with
        | true =>
          have HMB := Lib.hid hmb
          have HBD : Hid ((redAt m r (k + 1)).bound = (redAt m r k).bound) := Lib.hid (red_boundN HS.out (fun h => h.2 (of_decide_eq_true hmb)))
          clear hmb
          go_wp2_with (go_at_call 93; (with_reducible refine (memb1_any _ m _ _ HINR.out).mono ?_); rintro e w1 ⟨e1, rfl⟩; rw [HMB.out] at e1; subst e1)
          first
            | (go_roundw
               case rel => (exact ⟨k + 1, _, _, hlt, by go_num, HP.out.next (by omega) HBD.out, Lib.hid (fun e => by rw [HS.out] at e; cases e)⟩)
               case measure => (simp [intOf]; omega))
            | (refine ⟨?_, ?_⟩
               · (exact ⟨k + 1, _, _, hlt, by go_num, HP.out.next (by omega) HBD.out, Lib.hid (fun e => by rw [HS.out] at e; cases e)⟩)
               · (simp [intOf]; omega))
        | false =>
          have HMB := Lib.hid hmb
          have HBD : Hid ((redAt m r (k + 1)).bound = (redAt m r k).bound - ix r.w k) := Lib.hid (red_boundM HS.out (by omega) (of_decide_eq_false hmb))
          have hki : (0 : Int) ≤ (k : Int) := Int.natCast_nonneg _
          have hkw : (k : Int) < (r.w.length : Int) := by have := HWL.out; omega
          clear hmb
          go_upto_region 10 with (go_at_call 93; (with_reducible refine (memb1_any _ m _ _ HINR.out).mono ?_); rintro e w1 ⟨e1, rfl⟩; rw [HMB.out] at e1; subst e1)
          go_region_law (fail)
          all_goals (
            go_wp2
            first
              | (go_roundw
                 case rel => (exact ⟨k + 1, _, _, hlt, by go_num, (HP.out.sub (by omega) HBD.out).on ((Below.refl _ _).drew), Lib.hid (fun e => by rw [HS.out] at e; cases e)⟩)
                 case measure => (simp [intOf]; omega))
              | (refine ⟨?_, ?_⟩
                 · (exact ⟨k + 1, _, _, hlt, by go_num, (HP.out.sub (by omega) HBD.out).on ((Below.refl _ _).drew), Lib.hid (fun e => by rw [HS.out] at e; cases e)⟩)
                 · (simp [intOf]; omega)))
    · obtain rfl : k = r.body.length := by omega
      have hbk := red_bound1 (m := m) HS.out r.body.length
      have HRE := Lib.hid (red_end1 (m := m) HS.out)
      by_cases hle : (redAt m r r.body.length).bound ≤ 0
      · have HRED : Hid (redB m r = some emptyR) := Lib.hid (by rw [HRE.out, if_pos (by omega)])
        clear hbk
        go_wp2
        (try simp only [Exit.inBlock, Exit.then])
        refine bodyPost_ret (results_cell_row2 rfl _ _ (w.heap.size + 1) 41 _ (0, 0) _ rfl (set6_blk HRES.out rfl _ _ _ _ _ _) Try.underlying41 rfl (by kernel_rfl)) rfl ?_
        exact posPost_some (w.heap.size + 1 + 1 + 1) (by omega) HRED.out rfl (QRow.nil _ _) (QRow.nil _ _) (set6_below HBL.out (by omega) _ _ _ _ _ _)
      · have HRED : Hid (redB m r = some (redAt m r r.body.length)) := Lib.hid (by rw [HRE.out, if_neg (by omega)])
        clear hbk
        go_wp2
        (try simp only [Exit.inBlock, Exit.then])
        refine bodyPost_ret (results_cell_row2 rfl _ _ (w.heap.size + 1) 41 _ (0, 0) _ rfl (set6_blk HRES.out rfl _ _ _ _ _ _) Try.underlying41 rfl (by kernel_rfl)) rfl ?_
        exact posPost_some (w.heap.size + 1 + 1 + 1) (by omega) HRED.out (by rw [show (redAt m r r.body.length).sum = true from HS.out]; rfl) (set6_row HQA.out (by omega) _ _ _ _ _ _) (set6_row HQB.out (by omega) _ _ _ _ _ _) (set6_below HBL.out (by omega) _ _ _ _ _ _)

theorem positive_any (v : Value) (r : GR) (m : List Int) (mb : Nat) (n : Int) (w : World) (hr : RuleIs w v r) (h : InM w mb m) (hW : BodyW r n) :
    Calls Try.prog 104 #[v, .func (.func 93) #[] #[.pointer (some ⟨mb, 0, none⟩)]] w (PosPost r m w) := by
  cases hs : r.sum with
  | false => exact positive_off v r m mb n w hr h hW hs
  | true => exact positive_on v r m mb n w hr h hW hs

end Go.Proofs.Ytdoecchigfdilaa
