/- source.own. -/
import Derived.Test.YtkjpnpkmnpofgaaOwn
import Derived.Deep.RegionWith
import Derived.Deep.DeepCutAuto
import Derived.Deep.DrawnRows
namespace Go.Proofs.Ytkjpnpkmnpofgaa
open Go.RowKit
attribute [local go_sem ↓] Go.wp_at_zero Go.wp_at_succ

def OwnRel (r : GR) (w wx : World) : Prop :=
  Below w.heap.size w wx ∧ Blk wx (w.heap.size + 1) [.bool false, .slice none 0 0, .bool false, .int .i64 0, .slice none 0 0, .slice none 0 0] 44 ∧
    ∃ x1 y1 x2 y2 x3 y3, Blk wx w.heap.size [.bool r.choice, .slice x1 r.head.length y1, .bool r.sum, .int .i64 r.bound, .slice x2 r.body.length y2, .slice x3 r.w.length y3] 44 ∧
      OwnI (w.heap.size + 2) wx (.slice x1 r.head.length y1) r.head ∧ OwnI (w.heap.size + 2) wx (.slice x2 r.body.length y2) r.body ∧ OwnI (w.heap.size + 2) wx (.slice x3 r.w.length y3) r.w

theorem OwnI.setC {base : Nat} {w : World} {v : Value} {l : List Int} (h : OwnI base w v l) {b : Nat} (o : Nat) (u : Value) (hb : b < base) : OwnI base (w.setCell ⟨b, o, none⟩ u) v l := by
  obtain ⟨⟨⟨h1, h2⟩, h3⟩, h4⟩ := h
  refine ⟨⟨⟨h1, ?_⟩, h3⟩, h4⟩
  rcases h2 with h2 | ⟨g, cap, cur, e, hg, hh, r⟩
  · exact .inl h2
  · exact .inr ⟨g, cap, cur, e, hg, (Below.heap_setCell _ _ _ _ (show g ≠ b by omega)).trans hh, r⟩

set_option maxHeartbeats 4000000 in
set_option maxRecDepth 100000 in
theorem own_any (v : Value) (r : GR) (w : World) (h : RuleIs w v r) :
    Calls Try.prog 33 #[v] w fun e w' => ∃ vh vb vw, e = .returned (.agg #[.bool r.choice, vh, .bool r.sum, .int .i64 r.bound, vb, vw]) ∧ OwnI w.heap.size w' vh r.head ∧ OwnI w.heap.size w' vb r.body ∧ OwnI w.heap.size w' vw r.w ∧ InI r.bound ∧ Below w.heap.size w w' := by
  obtain ⟨vh, vb, vw, rfl, hh, hbd, hw, hbi⟩ := h
  obtain ⟨a1, c1, rfl, -, hl1, -, -⟩ := hh.form
  obtain ⟨a2, c2, rfl, -, hl2, -, -⟩ := hbd.form
  obtain ⟨a3, c3, rfl, -, hl3, -, -⟩ := hw.form
  obtain ⟨W, hW⟩ : ∃ W, W = (w.alloc (.cells #[.bool r.choice, .slice a1 r.head.length c1, .bool r.sum, .int .i64 r.bound, .slice a2 r.body.length c2, .slice a3 r.w.length c3] 44)).alloc (.cells #[.bool false, .slice none 0 0, .bool false, .int .i64 0, .slice none 0 0, .slice none 0 0] 44) := ⟨_, rfl⟩
  have hal : Below w.heap.size w W := by rw [hW]; exact bal (bal (Below.refl _ _) _) _
  have B1 : Blk W w.heap.size [.bool r.choice, .slice a1 r.head.length c1, .bool r.sum, .int .i64 r.bound, .slice a2 r.body.length c2, .slice a3 r.w.length c3] 44 := by rw [hW]; exact (Blk.new w _ _).alloc _
  have B2 : Blk W (w.heap.size + 1) [.bool false, .slice none 0 0, .bool false, .int .i64 0, .slice none 0 0, .slice none 0 0] 44 := by rw [hW]; exact Blk.new2 w _ _ _
  have HH := Lib.hid (hh.below hal)
  have HB := Lib.hid (hbd.below hal)
  have HW := Lib.hid (hw.below hal)
  have s1 := B1.cell 1
  have s2 := B1.cell 4
  have s3 := B1.cell 5
  have f1 := B1.free 1
  have f2 := B1.free 4
  have f3 := B1.free 5
  simp only [List.getElem?_cons_succ, List.getElem?_cons_zero] at s1 s2 s3
  have hz := B1.lt
  have HB1 := Lib.hid B1
  have HB2 := Lib.hid B2
  have hW' := hW.symm
  clear hW B1 B2 hh hbd hw
  go_enter Try.func33, Try.ntmps33
  go_upto_region 1 with fail
  clear hW'
  go_cut [] (fun wx => OwnRel r w wx)
  case first =>
    have b0 := Below.refl W.heap.size W
    go_region_with (first
      | (go_at_call 64; refine (cloneI_sl _ _ _ (HW.out.below hB2)).mono ?_; rintro e w3 ⟨x3, y3, rfl, ho, hb⟩; have hB3 : Below W.heap.size W w3 := bon hB2 hb; have hcc3 := bcell hB3; have hff3 := bfrozen hB3; have HO3 := Lib.hid ho; have HBB3 := Lib.hid hb; clear ho hb)
      | (go_at_call 64; refine (cloneI_sl _ _ _ (HB.out.below hB1)).mono ?_; rintro e w2 ⟨x2, y2, rfl, ho, hb⟩; have hB2 : Below W.heap.size W w2 := bon hB1 hb; have hcc2 := bcell hB2; have hff2 := bfrozen hB2; have HO2 := Lib.hid ho; have HBB2 := Lib.hid hb; clear ho hb)
      | (go_at_call 64; refine (cloneI_sl _ _ _ (HH.out.below b0.drew)).mono ?_; rintro e w1 ⟨x1, y1, rfl, ho, hb⟩; have hB1 : Below W.heap.size W w1 := bon b0.drew hb; have hcc1 := bcell hB1; have hff1 := bfrozen hB1; have HO1 := Lib.hid ho; have HBB1 := Lib.hid hb; clear ho hb))
    all_goals
      go_wp2_with fail
      go_meet
      case rel =>
        have hz1 : w.heap.size < w1.heap.size := Nat.lt_of_lt_of_le hz hB1.size
        have hz2 : w.heap.size < w2.heap.size := Nat.lt_of_lt_of_le hz hB2.size
        have hy : w.heap.size + 1 < W.heap.size := HB2.out.lt
        have hy1 : w.heap.size + 1 < w1.heap.size := Nat.lt_of_lt_of_le hy hB1.size
        have hy2 : w.heap.size + 1 < w2.heap.size := Nat.lt_of_lt_of_le hy hB2.size
        have hs1 := hB1.size
        have hs2 := hB2.size
        refine ⟨?_, ?_, x1, y1, x2, y2, x3, y3, ?_, ?_, ?_, ?_⟩
        · exact (((bon hal hB3).setCell (by simp) _).setCell (by simp) _).setCell (by simp) _
        · exact (((HB2.out.below hB3).setOther _ _ (by simp)).setOther _ _ (by simp)).setOther _ _ (by simp)
        · exact (((HB1.out.below hB3).set 1 _).set 4 _).set 5 _
        · exact (((((HO1.out.below HBB2.out).below HBB3.out).mono (by simp; omega)).setC _ _ (by omega)).setC _ _ (by omega)).setC _ _ (by omega)
        · exact ((((HO2.out.below HBB3.out).mono (by omega)).setC _ _ (by omega)).setC _ _ (by omega)).setC _ _ (by omega)
        · exact (((HO3.out.mono (by omega)).setC _ _ (by omega)).setC _ _ (by omega)).setC _ _ (by omega)
  case rest =>
    obtain ⟨g1, g2, x1, y1, x2, y2, x3, y3, g3, p1, p2, p3⟩ := hcut
    have k1 := g3.cell
    have k2 := g2.cell
    have k3 := g2.free
    have HG1 := Lib.hid g1
    have HP1 := Lib.hid p1
    have HP2 := Lib.hid p2
    have HP3 := Lib.hid p3
    clear g1 p1 p2 p3
    go_wp2
    have hf := (((((g2.set 0 (.bool r.choice)).set 1 (.slice x1 r.head.length y1)).set 2 (.bool r.sum)).set 3 (.int .i64 r.bound)).set 4 (.slice x2 r.body.length y2)).set 5 (.slice x3 r.w.length y3)
    have kf := hf.cell
    refine bodyPost_ret (v := .agg #[.bool r.choice, .slice x1 r.head.length y1, .bool r.sum, .int .i64 r.bound, .slice x2 r.body.length y2, .slice x3 r.w.length y3]) ?_ rfl ?_
    · simp [results, Try.results33, go_sem, kf]
    · refine ⟨_, _, _, rfl, ?_, ?_, ?_, hbi, ?_⟩
      · exact ((((((HP1.out.setC _ _ (by omega)).setC _ _ (by omega)).setC _ _ (by omega)).setC _ _ (by omega)).setC _ _ (by omega)).setC _ _ (by omega)).mono (by omega)
      · exact ((((((HP2.out.setC _ _ (by omega)).setC _ _ (by omega)).setC _ _ (by omega)).setC _ _ (by omega)).setC _ _ (by omega)).setC _ _ (by omega)).mono (by omega)
      · exact ((((((HP3.out.setC _ _ (by omega)).setC _ _ (by omega)).setC _ _ (by omega)).setC _ _ (by omega)).setC _ _ (by omega)).setC _ _ (by omega)).mono (by omega)
      · exact (((((HG1.out.setCell (by simp) _).setCell (by simp) _).setCell (by simp) _).setCell (by simp) _).setCell (by simp) _).setCell (by simp) _

end Go.Proofs.Ytkjpnpkmnpofgaa
