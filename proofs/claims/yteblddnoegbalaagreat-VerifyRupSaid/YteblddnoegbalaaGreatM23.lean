/- My texts Cut8, Cut9, Cut10, Cut11, Cut6, Cut12, merged. -/
import Derived.Test.YteblddnoegbalaaGreatM22
import Derived.Test.YteblddnoegbalaaGreatM21
import Derived.Test.YteblddnoegbalaaGreatM04
import Derived.Test.YteblddnoegbalaaGreatM03
import Derived.Test.YteblddnoegbalaaGreatM00
import Derived.Test.YteblddnoegbalaaGreatProg
import Derived.WalkKit
import Derived.Lib.Hide
import Derived.Deep.QuietTactic
import Derived.BigQuiet
import Derived.WalkSpells
import Derived.Lib.SliceRun
import Derived.MapKept
import Derived.Maps.OwnSet
import Derived.Maps.OwnOps
import Derived.Test.YteblddnoegbalaaGreatM02
import Derived.Test.YteblddnoegbalaaGreatM01
import Derived.Deep.AppendLies
import Derived.Lib.Bytealg
import Derived.Test.YteblddnoegbalaaGreatM13
import Derived.Deep.AppendSrc
import Derived.Test.YteblddnoegbalaaGreatM12
import Derived.Test.YteblddnoegbalaaGreatM11
import Derived.Test.YteblddnoegbalaaGreatM07
import Derived.Deep.DeepCutAuto
import Derived.RangeFuncNested
import Derived.RangeFuncBound
import Derived.RangeFuncCalls
import Derived.RangeFuncLeaves
import Derived.OwnWalkIn
import Derived.TacticsInMore
import Derived.LoopNIn
import Derived.LoopIn
import Derived.Stop.RegionWithIn
import Derived.Shelf.Abstract
import Derived.Test.YteblddnoegbalaaGreatM05
import Derived.Laws.EntriesVeiled
import Derived.Test.YteblddnoegbalaaGreatM10
import Derived.Test.YteblddnoegbalaaGreatM09
import Derived.Test.YteblddnoegbalaaGreatM08
import Derived.Maps.RangeWalk
import Derived.Test.YteblddnoegbalaaGreatM06
import Derived.Lib.SlicesCompact
import Derived.Shelf.Sort.Plain
import Derived.Shelf.Slices.CompactI
import Derived.Shelf.Slices.In.SortNone
import Derived.Shelf.Strconv.Itoa3
import Derived.Shelf.Strings.BuilderK
import Derived.Shelf.Slices.SearchI
import Derived.Shelf.Slices.Empties
import Derived.Sort.OwnSortedInts
import Derived.Sort.QuietThIn
import Derived.RangeFuncBox
import Derived.Maps.OwnIn
import Derived.Lib.RowBridge
import Derived.Deep.OwnRows
import Derived.Lib.AppendZeros
import Derived.Test.YteblddnoegbalaaGreatM14
import Derived.Test.YteblddnoegbalaaGreatM16
import Derived.Test.YteblddnoegbalaaGreatM20
import Derived.Deep.DeepMust
import Derived.Test.YteblddnoegbalaaGreatM19
import Derived.Deep.RegionWith
import Derived.Test.YteblddnoegbalaaGreatM15
import Derived.Deep.LoopGhost
import Derived.Deep.DrawnRows
import Derived.Test.YteblddnoegbalaaGreatM18
import Derived.Test.YteblddnoegbalaaGreatM17
import Derived.ProofKit
import Derived.OpenShut
import Derived.ChangeArms
import Derived.SizedLaws

namespace Go.Proofs.YteblddnoegbalaaGreat
open Go.RowKit
attribute [local go_sem] memUpon
theorem set3_flat : ∀ (L : List CQ) (k : Nat) (q : CQ), k < L.length → (L.set k q).flatMap cells3 = (((L.flatMap cells3).set (k * 3) q.2.1).set (k * 3 + 1) q.2.2).set (k * 3 + 2) (.int .i64 q.1.bound)
  | [], _, _, h => absurd h (by simp)
  | x :: L, 0, q, _ => by simp [cells3]
  | x :: L, k + 1, q, h => by
    rw [List.set_cons_succ, List.flatMap_cons, List.flatMap_cons, set3_flat L k q (by simpa using h), show (k + 1) * 3 = k * 3 + 1 + 1 + 1 by omega]
    simp [cells3]
theorem flat3_take : ∀ (L : List CQ) (k : Nat), (L.flatMap cells3).take (k * 3) = (L.take k).flatMap cells3
  | [], k => by simp
  | x :: L, 0 => by simp
  | x :: L, k + 1 => by
    rw [List.take_succ_cons, List.flatMap_cons, List.flatMap_cons, show (k + 1) * 3 = k * 3 + 1 + 1 + 1 by omega, ← flat3_take L k]
    simp [cells3]
theorem flat3_lenS : ∀ L : List CQ, (L.flatMap cells3).length = L.length * 3
  | [] => rfl
  | x :: L => by
    rw [List.flatMap_cons, List.length_append, flat3_lenS L, List.length_cons]
    simp [cells3]
    omega
theorem grown3 (W : World) (g o1 o2 o3 : Nat) (u1 u2 u3 : Value) : W.grownBy (((W.setCell ⟨g, o1, none⟩ u1).setCell ⟨g, o2, none⟩ u2).setCell ⟨g, o3, none⟩ u3) (some g) :=
  ⟨rfl, rfl, rfl, by simp [World.setCell], fun k _ hne => by
    have : k ≠ g := fun e => hne (by rw [e])
    rw [Below.heap_setCell _ _ _ _ this, Below.heap_setCell _ _ _ _ this, Below.heap_setCell _ _ _ _ this]⟩
section
variable {w0 W W' : World} {v : Value} {L : List CQ}
theorem RowP.cut {g n cap k : Nat} (h : RowP w0 (.slice (some ⟨g, 0, none⟩) n cap) L W) (hk : k ≤ L.length) : RowP w0 (.slice (some ⟨g, 0, none⟩) k cap) (L.take k) W := by
  have hl : (L.take k).length = k := by rw [List.length_take]; omega
  refine ⟨?_, fun q hq => h.each q (List.mem_of_mem_take hq)⟩
  rw [hl]
  refine ⟨by rw [flat3_lenS, hl], ?_⟩
  rcases h.row.2 with ⟨e, -⟩ | ⟨g', cap', cur, e, hb, hg, hn, hm, hs, hx⟩
  · cases e
  · simp only [Value.slice.injEq, Option.some.injEq, Addr.mk.injEq, and_true] at e
    obtain ⟨rfl, rfl, rfl⟩ := e
    refine .inr ⟨g, cap, cur, rfl, hb, hg, by omega, hm, hs, ?_⟩
    rw [← flat3_take, ← hx, List.take_take, Nat.min_eq_left (by omega)]
theorem RowP.set3 {g n cap k : Nat} {q : CQ} (h : RowP w0 (.slice (some ⟨g, 0, none⟩) n cap) L W) (hk : k < L.length) (hq : PBX w0 W q) :
    RowP w0 (.slice (some ⟨g, 0, none⟩) n cap) (L.set k q) (((W.setCell ⟨g, k * 3, none⟩ q.2.1).setCell ⟨g, k * 3 + 1, none⟩ q.2.2).setCell ⟨g, k * 3 + 2, none⟩ (.int .i64 q.1.bound)) := by
  have hgr := grown3 W g (k * 3) (k * 3 + 1) (k * 3 + 2) q.2.1 q.2.2 (.int .i64 q.1.bound)
  refine ⟨?_, fun q' hq' => ?_⟩
  · rw [List.length_set]
    refine ⟨by rw [flat3_lenS, List.length_set], ?_⟩
    rcases h.row.2 with ⟨e, -⟩ | ⟨g', cap', cur, e, hb, hg, hn, hm, hs, hx⟩
    · cases e
    · simp only [Value.slice.injEq, Option.some.injEq, Addr.mk.injEq, and_true] at e
      obtain ⟨rfl, rfl, rfl⟩ := e
      have hB : Blk W g cur.toList 25 := by unfold Blk; simpa using hg
      refine .inr ⟨g, cap, _, rfl, hb, ((hB.set _ _).set _ _).set _ _, hn, hm, by simpa using hs, ?_⟩
      dsimp only
      rw [List.take_set, List.take_set, List.take_set, hx, set3_flat L k q hk]
  · rcases List.mem_or_eq_of_mem_set hq' with hq' | rfl
    · exact (h.each q' hq').rowKept h hgr
    · exact hq.rowKept h hgr
end
theorem PBX.is {w0 W : World} {q : CQ} (h : PBX w0 W q) (hb : Below w0.heap.size w0 W) : PBIs W (.agg #[q.2.1, q.2.2, .int .i64 q.1.bound]) q.1 := ⟨_, _, rfl, h.1.ints hb, h.2.1.ints hb, h.2.2⟩
theorem PBX.own {w0 W : World} {c : PBC} {vl vk : Value} (h1 : QRow w0.heap.size W vl c.lits) (h2 : QRow w0.heap.size W vk c.coefs) (h3 : InI c.bound) (h4 : c.lits.length ≤ 65536) (h5 : c.coefs.length ≤ 65536) : PBX w0 W (c, vl, vk) :=
  ⟨.own h1 (by dsimp only; omega), .own h2 (by dsimp only; omega), h3⟩
structure StkSt (w0 : World) (db : List PBC) (sb : Nat) (v vdb : Value) (L : List CQ) (W : World) : Prop where
  box : Blk W sb [v, vdb] 196
  row : RowP w0 v L W
  db : PBsIs w0 vdb db
  below : Below w0.heap.size w0 W
  base : w0.heap.size ≤ sb
theorem StkSt.on {w0 W W' : World} {db : List PBC} {sb : Nat} {v vdb : Value} {L : List CQ} (h : StkSt w0 db sb v vdb L W) (hb : Below W.heap.size W W') : StkSt w0 db sb v vdb L W' := ⟨h.box.below hb, h.row.below hb, h.db, bon h.below hb, h.base⟩
def Stk (w0 : World) (db : List PBC) (sb : Nat) (s : List PBC) (W : World) : Prop := ∃ v vdb L, StkSt w0 db sb v vdb L W ∧ L.map (·.1) = s
def TopOut (w0 : World) (db : List PBC) (sb : Nat) (r : List PBC × Int) (e : Ending) (W : World) : Prop := e = .returned (.int .i64 r.2) ∧ Below w0.heap.size w0 W ∧ (r.2 = 0 → Stk w0 db sb r.1 W)
theorem StkSt.elem {w0 W : World} {db : List PBC} {sb : Nat} {v vdb : Value} {L : List CQ} (h : StkSt w0 db sb v vdb L W) {k : Nat} (hk : k < L.length) : ∃ g cap vl vk, v = .slice (some ⟨g, 0, none⟩) L.length cap ∧ w0.heap.size ≤ g ∧ g < W.heap.size ∧ g ≠ sb ∧
    (∀ o, W.frozen? ⟨g, o, none⟩ = false) ∧ W.cell? ⟨g, k * 3, none⟩ = some vl ∧ W.cell? ⟨g, k * 3 + 1, none⟩ = some vk ∧ W.cell? ⟨g, k * 3 + 2, none⟩ = some (.int .i64 (ixC (L.map (·.1)) k).bound) ∧ PBIs W (.agg #[vl, vk, .int .i64 (ixC (L.map (·.1)) k).bound]) (ixC (L.map (·.1)) k) := by
  have hm : L.getD k default ∈ L := by rw [List.getD_eq_getElem?_getD, List.getElem?_eq_getElem hk]; exact List.getElem_mem hk
  have e1 : ixC (L.map (·.1)) k = (L.getD k default).1 := by simp [ixC, List.getD_eq_getElem?_getD, List.getElem?_eq_getElem hk]
  have hx := (h.row.each _ hm).is h.below
  rcases h.row.row.2 with ⟨-, h0⟩ | ⟨g, cap, cur, rfl, hb, hg, hn, hm', hs, hx'⟩
  · omega
  have hB : Blk W g cur.toList 25 := by unfold Blk; simpa using hg
  have hc : ∀ j, j < 3 → W.cell? ⟨g, k * 3 + j, none⟩ = (cells3 (L.getD k default))[j]? := fun j hj => by
    have h6 := flat3 L k j hk hj
    rw [← hx', List.getElem?_take_of_lt (by omega)] at h6
    rw [hB.cell, h6]
  refine ⟨g, cap, _, _, rfl, hb, hB.lt, fun e => ?_, hB.free, (hc 0 (by omega)).trans rfl, (hc 1 (by omega)).trans rfl, (hc 2 (by omega)).trans (by rw [e1]; rfl), by rw [e1]; exact hx⟩
  have h1 := h.row.far h.box (by decide)
  exact h1 (by rw [e]; rfl)
theorem StkSt.set3 {w0 W : World} {db : List PBC} {sb g cap k : Nat} {vdb : Value} {L : List CQ} (h : StkSt w0 db sb (.slice (some ⟨g, 0, none⟩) L.length cap) vdb L W) (hk : k + 1 = L.length) {c : PBC} {vl vk : Value} (hq : PBX w0 W (c, vl, vk)) (hg : w0.heap.size ≤ g) (hne : g ≠ sb) :
    Below w0.heap.size w0 (((W.setCell ⟨g, k * 3, none⟩ vl).setCell ⟨g, k * 3 + 1, none⟩ vk).setCell ⟨g, k * 3 + 2, none⟩ (.int .i64 c.bound)) ∧ Stk w0 db sb ((L.map (·.1)).take k ++ [c]) (((W.setCell ⟨g, k * 3, none⟩ vl).setCell ⟨g, k * 3 + 1, none⟩ vk).setCell ⟨g, k * 3 + 2, none⟩ (.int .i64 c.bound)) := by
  have hb := ((h.below.setCell (p := ⟨g, k * 3, none⟩) hg vl).setCell (p := ⟨g, k * 3 + 1, none⟩) hg vk).setCell (p := ⟨g, k * 3 + 2, none⟩) hg (.int .i64 c.bound)
  refine ⟨hb, _, _, L.set k (c, vl, vk), ⟨((h.box.setOther _ _ hne.symm).setOther _ _ hne.symm).setOther _ _ hne.symm, h.row.set3 (by omega) hq, h.db, hb, h.base⟩, ?_⟩
  rw [List.map_set, List.set_eq_take_append_cons_drop, if_pos (by rw [List.length_map]; omega), List.drop_of_length_le (by rw [List.length_map]; omega)]
end Go.Proofs.YteblddnoegbalaaGreat
namespace Go.Proofs.YteblddnoegbalaaGreat
open Go.RowKit
attribute [local go_sem] memUpon
set_option maxHeartbeats 4000000 in
set_option maxRecDepth 100000 in
theorem stop_mul {w0 W : World} {db : List PBC} {sb : Nat} {v vdb : Value} {L : List CQ} {n : Int} (h : StkSt w0 db sb v vdb L W) (hn : InI n) (hl : L.length ≤ 100000) :
    Calls Tryz.prog 209 #[.pointer (some ⟨sb, 0, none⟩), .func (.func 210) #[] #[], .int .i64 n] W (TopOut w0 db sb (topP mulP (L.map (·.1)) n)) := by
  obtain ⟨a1, c1, rfl⟩ := h.row.slen
  have HS := Lib.hid h
  have HN := Lib.hid hn
  have kb0 := h.box.cell
  have zb0 := h.box.lt
  clear hn
  by_cases h0 : L.length = 0
  · have HF : Hid (topP mulP (L.map (·.1)) n = ([], 2)) := Lib.hid (by unfold topP; rw [List.length_map, if_pos h0])
    rw [h0] at kb0
    clear h
    go_enter Tryz.func209, Tryz.ntmps209
    go_wp2
    go_ret
    rw [HF.out]
    exact ⟨rfl, HS.out.below, fun e => absurd e (by decide)⟩
  · obtain ⟨k, hk⟩ : ∃ k, L.length = k + 1 := ⟨L.length - 1, by omega⟩
    obtain ⟨g, cap, vl, vk, e1, hg, hgl, hne, hfz, hc0, hc1, hc2, hpb⟩ := h.elem (k := k) (by omega)
    simp only [Value.slice.injEq, true_and] at e1
    obtain ⟨rfl, rfl⟩ := e1
    obtain ⟨c, hc⟩ : ∃ c, ixC (L.map (·.1)) k = c := ⟨_, rfl⟩
    rw [hc] at hc2 hpb
    obtain ⟨R, hR⟩ : ∃ R, mulP c n = R := ⟨_, rfl⟩
    have HF : Hid (topP mulP (L.map (·.1)) n = ((L.map (·.1)).take k ++ [R.1], R.2)) := Lib.hid (by unfold topP; rw [List.length_map, if_neg h0, hk, Nat.add_sub_cancel, hc, hR])
    have HR := Lib.hid hR
    have HK := Lib.hid hk
    have HP := Lib.hid hpb
    have HG := Lib.hid (And.intro hg hne)
    have hkl : k ≤ 100000 := by omega
    rw [hk] at kb0
    clear hc hR hpb hg h h0 hk hl
    go_enter Tryz.func209, Tryz.ntmps209
    go_upto_region 5 with (go_at_call 210; (with_reducible refine (cmul_any _ c n _ HP.out HN.out).mono ?_); rintro e w1 ⟨vp, rfl, hq, hb1⟩; rw [HR.out] at hq; obtain ⟨ul, uk, rfl, hq1, hq2, hq3, hq4, hq5⟩ := hq; obtain ⟨al, cl, rfl⟩ := hq1.slen; obtain ⟨ak, ck, rfl⟩ := hq2.slen; have HQ1 := Lib.hid hq1; have HQ2 := Lib.hid hq2; have HQ3 := Lib.hid hq3; have HQ4 := Lib.hid hq4; have HQ5 := Lib.hid hq5; have HB1 := Lib.hid hb1; have HS1 := Lib.hid (HS.out.on hb1); clear hq1 hq2 hq3 hq4 hq5 hb1)
    have hal := bal (Below.refl w1.heap.size w1) (.cells #[.slice al R.1.lits.length cl, .slice ak R.1.coefs.length ck, .int .i64 R.1.bound] 25)
    have HS2 := Lib.hid (HS1.out.on hal)
    have HX2 := Lib.hid (Blk.new w1 [.slice al R.1.lits.length cl, .slice ak R.1.coefs.length ck, .int .i64 R.1.bound] 25)
    have HQ12 := Lib.hid (HQ1.out.below hal)
    have HQ22 := Lib.hid (HQ2.out.below hal)
    have HZ : Hid (w0.heap.size ≤ W.heap.size) := Lib.hid HS.out.below.size
    generalize hw2 : w1.alloc (.cells #[.slice al R.1.lits.length cl, .slice ak R.1.coefs.length ck, .int .i64 R.1.bound] 25) = w2 at *
    generalize w1.heap.size = xb at *
    clear hw2 hal HS1 HQ1 HQ2 HB1 kb0 hfz hc0 hc1 hc2
    have kb2 := HS2.out.box.cell
    have zb2 := HS2.out.box.lt
    have kx2 := HX2.out.cell
    have zx2 := HX2.out.lt
    have ex1 : ∀ e : Ext w2, ∀ o, e.world.cell? ⟨xb, o, none⟩ = _ := fun e o => (bcell e.below _ o zx2).trans (kx2 o)
    have ex2 : ∀ e : Ext w2, ∀ o, e.world.cell? ⟨sb, o, none⟩ = _ := fun e o => (bcell e.below _ o zb2).trans (kb2 o)
    rw [HK.out] at ex2
    clear kb2 kx2
    refine wp_region_tail' 7 (fun _ => True) (fun _ _ _ _ _ _ => False) (fun _ => false) (by kernel_rfl) (by kernel_rfl) (by kernel_rfl) (fun _ _ => trivial) (fun _ _ _ _ _ _ _ h _ => h) ?_
    simp only [List.take_succ_cons, List.take_zero, List.drop_succ_cons, List.drop_zero]
    iterate 7 (refine walkP_head (by kernel_rfl) rfl rfl rfl (fun K hK => ?_); go_big_quiet_op; refine hK _ ?_; clear hK K)
    intro wx hbx hF hI hP
    have hsx := HS2.out.on hbx
    obtain ⟨g', cap', vl', vk', e2, -, hgl2, -, hfz2, hc02, hc12, hc22, -⟩ := hsx.elem (k := k) (by have := HK.out; omega)
    simp only [Value.slice.injEq, Option.some.injEq, Addr.mk.injEq, and_true, true_and] at e2
    obtain ⟨rfl, rfl⟩ := e2
    have hset := hsx.set3 HK.out.symm (PBX.own ((HQ12.out.below hbx).mono HZ.out) ((HQ22.out.below hbx).mono HZ.out) HQ3.out HQ4.out HQ5.out) HG.out.1 HG.out.2
    have HT := Lib.hid hset
    clear hF hI hP hsx hset hbx ex1 ex2
    refine ⟨rfl, rfl, ?_⟩
    go_simp
    simp only [tailW]
    clear hfz2 hc02 hc12 hc22
    go_wp2_with fail
    go_ret
    rw [HF.out]
    exact ⟨by rw [← HR.out]; rfl, HT.out.1, fun _ => HT.out.2⟩
set_option maxHeartbeats 4000000 in
set_option maxRecDepth 100000 in
theorem stop_div {w0 W : World} {db : List PBC} {sb : Nat} {v vdb : Value} {L : List CQ} {n : Int} (h : StkSt w0 db sb v vdb L W) (hn : InI n) (hl : L.length ≤ 100000) :
    Calls Tryz.prog 209 #[.pointer (some ⟨sb, 0, none⟩), .func (.func 212) #[] #[], .int .i64 n] W (TopOut w0 db sb (topP divP (L.map (·.1)) n)) := by
  obtain ⟨a1, c1, rfl⟩ := h.row.slen
  have HS := Lib.hid h
  have HN := Lib.hid hn
  have kb0 := h.box.cell
  have zb0 := h.box.lt
  clear hn
  by_cases h0 : L.length = 0
  · have HF : Hid (topP divP (L.map (·.1)) n = ([], 2)) := Lib.hid (by unfold topP; rw [List.length_map, if_pos h0])
    rw [h0] at kb0
    clear h
    go_enter Tryz.func209, Tryz.ntmps209
    go_wp2
    go_ret
    rw [HF.out]
    exact ⟨rfl, HS.out.below, fun e => absurd e (by decide)⟩
  · obtain ⟨k, hk⟩ : ∃ k, L.length = k + 1 := ⟨L.length - 1, by omega⟩
    obtain ⟨g, cap, vl, vk, e1, hg, hgl, hne, hfz, hc0, hc1, hc2, hpb⟩ := h.elem (k := k) (by omega)
    simp only [Value.slice.injEq, true_and] at e1
    obtain ⟨rfl, rfl⟩ := e1
    obtain ⟨c, hc⟩ : ∃ c, ixC (L.map (·.1)) k = c := ⟨_, rfl⟩
    rw [hc] at hc2 hpb
    obtain ⟨R, hR⟩ : ∃ R, divP c n = R := ⟨_, rfl⟩
    have HF : Hid (topP divP (L.map (·.1)) n = ((L.map (·.1)).take k ++ [R.1], R.2)) := Lib.hid (by unfold topP; rw [List.length_map, if_neg h0, hk, Nat.add_sub_cancel, hc, hR])
    have HR := Lib.hid hR
    have HK := Lib.hid hk
    have HP := Lib.hid hpb
    have HG := Lib.hid (And.intro hg hne)
    have hkl : k ≤ 100000 := by omega
    rw [hk] at kb0
    clear hc hR hpb hg h h0 hk hl
    go_enter Tryz.func209, Tryz.ntmps209
    go_upto_region 5 with (go_at_call 212; (with_reducible refine (cdiv_any _ c n _ HP.out HN.out).mono ?_); rintro e w1 ⟨vp, rfl, hq, hb1⟩; rw [HR.out] at hq; obtain ⟨ul, uk, rfl, hq1, hq2, hq3, hq4, hq5⟩ := hq; obtain ⟨al, cl, rfl⟩ := hq1.slen; obtain ⟨ak, ck, rfl⟩ := hq2.slen; have HQ1 := Lib.hid hq1; have HQ2 := Lib.hid hq2; have HQ3 := Lib.hid hq3; have HQ4 := Lib.hid hq4; have HQ5 := Lib.hid hq5; have HB1 := Lib.hid hb1; have HS1 := Lib.hid (HS.out.on hb1); clear hq1 hq2 hq3 hq4 hq5 hb1)
    have hal := bal (Below.refl w1.heap.size w1) (.cells #[.slice al R.1.lits.length cl, .slice ak R.1.coefs.length ck, .int .i64 R.1.bound] 25)
    have HS2 := Lib.hid (HS1.out.on hal)
    have HX2 := Lib.hid (Blk.new w1 [.slice al R.1.lits.length cl, .slice ak R.1.coefs.length ck, .int .i64 R.1.bound] 25)
    have HQ12 := Lib.hid (HQ1.out.below hal)
    have HQ22 := Lib.hid (HQ2.out.below hal)
    have HZ : Hid (w0.heap.size ≤ W.heap.size) := Lib.hid HS.out.below.size
    generalize hw2 : w1.alloc (.cells #[.slice al R.1.lits.length cl, .slice ak R.1.coefs.length ck, .int .i64 R.1.bound] 25) = w2 at *
    generalize w1.heap.size = xb at *
    clear hw2 hal HS1 HQ1 HQ2 HB1 kb0 hfz hc0 hc1 hc2
    have kb2 := HS2.out.box.cell
    have zb2 := HS2.out.box.lt
    have kx2 := HX2.out.cell
    have zx2 := HX2.out.lt
    have ex1 : ∀ e : Ext w2, ∀ o, e.world.cell? ⟨xb, o, none⟩ = _ := fun e o => (bcell e.below _ o zx2).trans (kx2 o)
    have ex2 : ∀ e : Ext w2, ∀ o, e.world.cell? ⟨sb, o, none⟩ = _ := fun e o => (bcell e.below _ o zb2).trans (kb2 o)
    rw [HK.out] at ex2
    clear kb2 kx2
    refine wp_region_tail' 7 (fun _ => True) (fun _ _ _ _ _ _ => False) (fun _ => false) (by kernel_rfl) (by kernel_rfl) (by kernel_rfl) (fun _ _ => trivial) (fun _ _ _ _ _ _ _ h _ => h) ?_
    simp only [List.take_succ_cons, List.take_zero, List.drop_succ_cons, List.drop_zero]
    iterate 7 (refine walkP_head (by kernel_rfl) rfl rfl rfl (fun K hK => ?_); go_big_quiet_op; refine hK _ ?_; clear hK K)
    intro wx hbx hF hI hP
    have hsx := HS2.out.on hbx
    obtain ⟨g', cap', vl', vk', e2, -, hgl2, -, hfz2, hc02, hc12, hc22, -⟩ := hsx.elem (k := k) (by have := HK.out; omega)
    simp only [Value.slice.injEq, Option.some.injEq, Addr.mk.injEq, and_true, true_and] at e2
    obtain ⟨rfl, rfl⟩ := e2
    have hset := hsx.set3 HK.out.symm (PBX.own ((HQ12.out.below hbx).mono HZ.out) ((HQ22.out.below hbx).mono HZ.out) HQ3.out HQ4.out HQ5.out) HG.out.1 HG.out.2
    have HT := Lib.hid hset
    clear hF hI hP hsx hset hbx ex1 ex2
    refine ⟨rfl, rfl, ?_⟩
    go_simp
    simp only [tailW]
    clear hfz2 hc02 hc12 hc22
    go_wp2_with fail
    go_ret
    rw [HF.out]
    exact ⟨by rw [← HR.out]; rfl, HT.out.1, fun _ => HT.out.2⟩
set_option maxHeartbeats 4000000 in
set_option maxRecDepth 100000 in
theorem stop_weak {w0 W : World} {db : List PBC} {sb : Nat} {v vdb : Value} {L : List CQ} {n : Int} (h : StkSt w0 db sb v vdb L W) (hn : InI n) (hl : L.length ≤ 100000) :
    Calls Tryz.prog 209 #[.pointer (some ⟨sb, 0, none⟩), .func (.func 214) #[] #[], .int .i64 n] W (TopOut w0 db sb (topP weakP (L.map (·.1)) n)) := by
  obtain ⟨a1, c1, rfl⟩ := h.row.slen
  have HS := Lib.hid h
  have HN := Lib.hid hn
  have kb0 := h.box.cell
  have zb0 := h.box.lt
  clear hn
  by_cases h0 : L.length = 0
  · have HF : Hid (topP weakP (L.map (·.1)) n = ([], 2)) := Lib.hid (by unfold topP; rw [List.length_map, if_pos h0])
    rw [h0] at kb0
    clear h
    go_enter Tryz.func209, Tryz.ntmps209
    go_wp2
    go_ret
    rw [HF.out]
    exact ⟨rfl, HS.out.below, fun e => absurd e (by decide)⟩
  · obtain ⟨k, hk⟩ : ∃ k, L.length = k + 1 := ⟨L.length - 1, by omega⟩
    obtain ⟨g, cap, vl, vk, e1, hg, hgl, hne, hfz, hc0, hc1, hc2, hpb⟩ := h.elem (k := k) (by omega)
    simp only [Value.slice.injEq, true_and] at e1
    obtain ⟨rfl, rfl⟩ := e1
    obtain ⟨c, hc⟩ : ∃ c, ixC (L.map (·.1)) k = c := ⟨_, rfl⟩
    rw [hc] at hc2 hpb
    obtain ⟨R, hR⟩ : ∃ R, weakP c n = R := ⟨_, rfl⟩
    have HF : Hid (topP weakP (L.map (·.1)) n = ((L.map (·.1)).take k ++ [R.1], R.2)) := Lib.hid (by unfold topP; rw [List.length_map, if_neg h0, hk, Nat.add_sub_cancel, hc, hR])
    have HR := Lib.hid hR
    have HK := Lib.hid hk
    have HP := Lib.hid hpb
    have HG := Lib.hid (And.intro hg hne)
    have hkl : k ≤ 100000 := by omega
    rw [hk] at kb0
    clear hc hR hpb hg h h0 hk hl
    go_enter Tryz.func209, Tryz.ntmps209
    go_upto_region 5 with (go_at_call 214; (with_reducible refine (cweak_any _ c n _ HP.out HN.out).mono ?_); rintro e w1 ⟨vp, rfl, hq, hb1⟩; rw [HR.out] at hq; obtain ⟨ul, uk, rfl, hq1, hq2, hq3, hq4, hq5⟩ := hq; obtain ⟨al, cl, rfl⟩ := hq1.slen; obtain ⟨ak, ck, rfl⟩ := hq2.slen; have HQ1 := Lib.hid hq1; have HQ2 := Lib.hid hq2; have HQ3 := Lib.hid hq3; have HQ4 := Lib.hid hq4; have HQ5 := Lib.hid hq5; have HB1 := Lib.hid hb1; have HS1 := Lib.hid (HS.out.on hb1); clear hq1 hq2 hq3 hq4 hq5 hb1)
    have hal := bal (Below.refl w1.heap.size w1) (.cells #[.slice al R.1.lits.length cl, .slice ak R.1.coefs.length ck, .int .i64 R.1.bound] 25)
    have HS2 := Lib.hid (HS1.out.on hal)
    have HX2 := Lib.hid (Blk.new w1 [.slice al R.1.lits.length cl, .slice ak R.1.coefs.length ck, .int .i64 R.1.bound] 25)
    have HQ12 := Lib.hid (HQ1.out.below hal)
    have HQ22 := Lib.hid (HQ2.out.below hal)
    have HZ : Hid (w0.heap.size ≤ W.heap.size) := Lib.hid HS.out.below.size
    generalize hw2 : w1.alloc (.cells #[.slice al R.1.lits.length cl, .slice ak R.1.coefs.length ck, .int .i64 R.1.bound] 25) = w2 at *
    generalize w1.heap.size = xb at *
    clear hw2 hal HS1 HQ1 HQ2 HB1 kb0 hfz hc0 hc1 hc2
    have kb2 := HS2.out.box.cell
    have zb2 := HS2.out.box.lt
    have kx2 := HX2.out.cell
    have zx2 := HX2.out.lt
    have ex1 : ∀ e : Ext w2, ∀ o, e.world.cell? ⟨xb, o, none⟩ = _ := fun e o => (bcell e.below _ o zx2).trans (kx2 o)
    have ex2 : ∀ e : Ext w2, ∀ o, e.world.cell? ⟨sb, o, none⟩ = _ := fun e o => (bcell e.below _ o zb2).trans (kb2 o)
    rw [HK.out] at ex2
    clear kb2 kx2
    refine wp_region_tail' 7 (fun _ => True) (fun _ _ _ _ _ _ => False) (fun _ => false) (by kernel_rfl) (by kernel_rfl) (by kernel_rfl) (fun _ _ => trivial) (fun _ _ _ _ _ _ _ h _ => h) ?_
    simp only [List.take_succ_cons, List.take_zero, List.drop_succ_cons, List.drop_zero]
    iterate 7 (refine walkP_head (by kernel_rfl) rfl rfl rfl (fun K hK => ?_); go_big_quiet_op; refine hK _ ?_; clear hK K)
    intro wx hbx hF hI hP
    have hsx := HS2.out.on hbx
    obtain ⟨g', cap', vl', vk', e2, -, hgl2, -, hfz2, hc02, hc12, hc22, -⟩ := hsx.elem (k := k) (by have := HK.out; omega)
    simp only [Value.slice.injEq, Option.some.injEq, Addr.mk.injEq, and_true, true_and] at e2
    obtain ⟨rfl, rfl⟩ := e2
    have hset := hsx.set3 HK.out.symm (PBX.own ((HQ12.out.below hbx).mono HZ.out) ((HQ22.out.below hbx).mono HZ.out) HQ3.out HQ4.out HQ5.out) HG.out.1 HG.out.2
    have HT := Lib.hid hset
    clear hF hI hP hsx hset hbx ex1 ex2
    refine ⟨rfl, rfl, ?_⟩
    go_simp
    simp only [tailW]
    clear hfz2 hc02 hc12 hc22
    go_wp2_with fail
    go_ret
    rw [HF.out]
    exact ⟨by rw [← HR.out]; rfl, HT.out.1, fun _ => HT.out.2⟩
end Go.Proofs.YteblddnoegbalaaGreat
namespace Go.Proofs.YteblddnoegbalaaGreat
open Go.RowKit
attribute [local go_sem] memUpon
theorem QRow.store {base : Nat} {W : World} {v : Value} {l : List Int} (h : QRow base W v l) {b : Nat} {c : List Value} {T : TypeId} (hb : Blk W b c T) (hT : T ≠ 3) (o : Nat) (u : Value) : QRow base (W.setCell ⟨b, o, none⟩ u) v l :=
  h.kept fun i _ _ hv => Below.heap_setCell _ _ _ _ fun e => h.far hb hT (by rw [hv, e])
theorem RowP.store {w0 W : World} {v : Value} {L : List CQ} (h : RowP w0 v L W) {b : Nat} {c : List Value} {T : TypeId} (hb : Blk W b c T) (h1 : T ≠ 3) (h2 : T ≠ 25) (o : Nat) (u : Value) : RowP w0 v L (W.setCell ⟨b, o, none⟩ u) :=
  h.same (fun i _ _ hv => Below.heap_setCell _ _ _ _ fun e => h.far hb h2 (by rw [hv, e])) fun q hq =>
    let ⟨g1, g2, g3⟩ := h.each q hq
    ⟨g1.imp id fun g => ⟨g.1.store hb h1 o u, g.2⟩, g2.imp id fun g => ⟨g.1.store hb h1 o u, g.2⟩, g3⟩
theorem StkSt.push {w0 W w' : World} {db : List PBC} {sb g cap : Nat} {v v1 vdb : Value} {L L1 : List CQ} {q : CQ} (h : StkSt w0 db sb v vdb L W) (hr1 : RowP w0 v1 L1 W) (hr : RowP w0 (.slice (some ⟨g, 0, none⟩) (L1.length + 1) cap) (L1 ++ [q]) w') (hg : W.grownBy w' v1.ownBlock) (hb : Below w0.heap.size w0 w') :
    StkSt w0 db sb (.slice (some ⟨g, 0, none⟩) (L1.length + 1) cap) vdb (L1 ++ [q]) (w'.setCell ⟨sb, 0, none⟩ (.slice (some ⟨g, 0, none⟩) (L1.length + 1) cap)) := by
  have hbx := h.box.same (hg.block sb h.box.lt fun e => hr1.far h.box (by decide) e.symm)
  exact ⟨(hbx.set 0 _), hr.store hbx (by decide) (by decide) _ _, h.db, hb.setCell (p := ⟨sb, 0, none⟩) h.base _, h.base⟩
def puΦ (i0 : Nat) (vl vk bd : Value) (i : Nat) (_ : List Value) (v : Value) (lo hi : Nat) (w : World) : Prop := i = i0 ∧ v = .slice (some ⟨lo, 0, none⟩) 1 1 ∧ lo < hi ∧ Blk w lo [vl, vk, bd] 25
theorem puΦ_later (i0 : Nat) (vl vk bd : Value) : ∀ i args v lo hi w w', puΦ i0 vl vk bd i args v lo hi w → Below w.heap.size w w' → puΦ i0 vl vk bd i args v lo hi w' := fun _ _ _ _ _ _ _ ⟨a, b, c, d⟩ hb => ⟨a, b, c, d.below hb⟩
set_option maxHeartbeats 4000000 in
set_option maxRecDepth 100000 in
theorem sdo1_any {w0 W : World} {db : List PBC} {sb bx : Nat} {v vdb : Value} {L : List CQ} {n : Int} (h : StkSt w0 db sb v vdb L W) (hx : Blk W bx [.pointer (some ⟨sb, 0, none⟩)] 194) (hn : InI n) (hl : L.length ≤ 100000) :
    Calls Tryz.prog 205 #[.int .i64 n, .pointer (some ⟨bx, 0, none⟩)] W (TopOut w0 db sb (doP db ⟨1, n⟩ (L.map (·.1)))) := by
  obtain ⟨a1, c1, rfl⟩ := h.row.slen
  have hdb := h.db.below h.below
  obtain ⟨ad, cd, rfl, -, hdl, -, hcell⟩ := h.db.form
  have HS := Lib.hid h
  have kb0 := h.box.cell
  have zb0 := h.box.lt
  have kx0 := hx.cell 0
  have zx0 := hx.lt
  have HX := Lib.hid hx
  have HNE : Hid (bx ≠ sb) := Lib.hid (fun e => by
    subst e
    have h1 := h.box
    unfold Blk at hx h1
    rw [hx] at h1
    simp at h1)
  have hi := hn
  unfold InI at hi
  clear hx hdb
  by_cases hbad : n < 0 ∨ (db.length : Int) ≤ n
  · have HF : Hid (doP db ⟨1, n⟩ (L.map (·.1)) = ([], 2)) := Lib.hid (by unfold doP; rw [if_pos rfl, if_pos hbad])
    clear h hcell
    by_cases h1 : n < 0
    · clear hbad
      go_enter Tryz.func205, Tryz.ntmps205
      go_wp2
      go_ret
      rw [HF.out]
      exact ⟨rfl, HS.out.below, fun e => absurd e (by decide)⟩
    · have h2 : (db.length : Int) ≤ n := by omega
      clear hbad
      go_enter Tryz.func205, Tryz.ntmps205
      go_wp2
      go_ret
      rw [HF.out]
      exact ⟨rfl, HS.out.below, fun e => absurd e (by decide)⟩
  · obtain ⟨i, rfl⟩ : ∃ i : Nat, n = i := ⟨n.toNat, by omega⟩
    have hil : i < db.length := by omega
    have HF : Hid (doP db ⟨1, (i : Int)⟩ (L.map (·.1)) = (L.map (·.1) ++ [ixC db i], 0)) := Lib.hid (by unfold doP; rw [if_pos rfl, if_neg hbad]; rfl)
    obtain ⟨b, off, rfl, hbl, hc⟩ := hcell (by omega)
    obtain ⟨vl, vk, ⟨k0, k1, k2⟩, hsl⟩ := hc i hil
    obtain ⟨c, hcc⟩ : ∃ c, ixC db i = c := ⟨_, rfl⟩
    rw [hcc] at hsl k2
    have HSL := Lib.hid hsl
    have HC := Lib.hid hcc
    have hbw := h.below
    clear hbad hcell hc h
    go_enter Tryz.func205, Tryz.ntmps205
    go_upto_region 3 with fail
    have ex1 : ∀ e : Ext W, e.world.cell? ⟨bx, 0, none⟩ = some (.pointer (some ⟨sb, 0, none⟩)) := fun e => (bcell e.below _ _ zx0).trans kx0
    have ex2 : ∀ e : Ext W, ∀ o, e.world.cell? ⟨sb, o, none⟩ = _ := fun e o => (bcell e.below _ _ zb0).trans (kb0 o)
    have ex3 : ∀ e : Ext W, e.world.cell? ⟨b, off + i * 3, none⟩ = some vl := fun e => (bcell (bon hbw e.below) _ _ hbl).trans k0
    have ex4 : ∀ e : Ext W, e.world.cell? ⟨b, off + i * 3 + 1, none⟩ = some vk := fun e => (bcell (bon hbw e.below) _ _ hbl).trans k1
    have ex5 : ∀ e : Ext W, e.world.cell? ⟨b, off + i * 3 + 2, none⟩ = some (.int .i64 c.bound) := fun e => (bcell (bon hbw e.below) _ _ hbl).trans k2
    have kb : ∀ e : KeepB W bx, e.world.cell? ⟨bx, 0, none⟩ = some (.pointer (some ⟨sb, 0, none⟩)) := fun e => (e.cell 0).trans kx0
    have HBW := Lib.hid hbw
    clear k0 k1 k2 hsl hcc hbw
    refine wp_region_tail' 13 (fun w' => ∃ e : KeepB W bx, w' = e.world) (puΦ 12 vl vk (.int .i64 c.bound)) (fun i => i == 12) (by kernel_rfl) (by kernel_rfl) (by kernel_rfl) (fun w' hb => ⟨⟨w', fun o => bcell hb _ _ zx0⟩, rfl⟩) (puΦ_later _ _ _ _) ?_
    simp only [List.take_succ_cons, List.take_zero, List.drop_succ_cons, List.drop_zero]
    iterate 1 (refine walkP_late (by kernel_rfl) rfl rfl rfl (fun K hK => ?_); go_big_quiet_op; refine hK _ ?_; clear hK K)
    iterate 11 (refine walkP_head (by kernel_rfl) rfl rfl rfl (fun K hK => ?_); go_big_quiet_op; refine hK _ ?_; clear hK K)
    refine walkP_mem rfl rfl (fun wa hba hFa => ?_) (fun v9 lo9 hi9 l9 g9 h9 => ?_)
    · go_simp
      exact ⟨bal (Below.refl _ _) _, rfl, rfl, by simp, Blk.new _ _ _⟩
    obtain ⟨_, -, rfl, -, -⟩ := h9
    simp only [Act.put, List.setIfInBounds_toArray, List.set_cons_succ, List.set_cons_zero]
    intro wx hbx hF hI hP
    obtain ⟨-, -, -, F9⟩ := hF _ (.head _)
    have HF9 := Lib.hid F9
    have HSX := Lib.hid (HS.out.on hbx)
    have HXX := Lib.hid (HX.out.below hbx)
    have HKX := Lib.hid (bcell hbx bx)
    have HBX := Lib.hid hbx
    clear F9 hF hI hP hbx ex1 ex2 ex3 ex4 ex5 kb
    refine ⟨rfl, rfl, ?_⟩
    refine wp_appendRP _ _ rfl w0 _ L (c, vl, vk) rfl HSX.out.row lo9 1 rfl HF9.out ⟨.old HSL.out.lits, .old HSL.out.coefs, HSL.out.bound⟩ (by omega) HSX.out.below ?_
    intro g cap w7 hr7 hg7 hb7
    have hst := HSX.out.push HSX.out.row hr7 hg7 hb7
    have hsb := (HSX.out.box.same (hg7.block sb HSX.out.box.lt fun e => HSX.out.row.far HSX.out.box (by decide) e.symm))
    have kf := hsb.free
    have kk := hsb.cell
    have hkx : ∃ e : KeepB W bx, w7 = e.world := ⟨⟨w7, fun o => (World.cell?_of_block (a := ⟨bx, o, none⟩) (hg7.block bx HXX.out.lt fun e => HSX.out.row.far HXX.out (by decide) e.symm)).trans (HKX.out o zx0)⟩, rfl⟩
    have HKW : Hid (∀ o, w7.cell? ⟨bx, o, none⟩ = W.cell? ⟨bx, o, none⟩) := Lib.hid (fun o => (World.cell?_of_block (a := ⟨bx, o, none⟩) (hg7.block bx HXX.out.lt fun e => HSX.out.row.far HXX.out (by decide) e.symm)).trans (HKX.out o zx0))
    have HST := Lib.hid hst
    have HKK := Lib.hid hkx
    clear hst hr7 hg7 hb7 hsb hkx
    refine ⟨HKK.out, rfl, rfl, ?_⟩
    go_simp
    refine ⟨HKK.out, rfl, rfl, ?_⟩
    go_simp
    refine ⟨HKK.out, rfl, rfl, ?_⟩
    go_simp
    refine ⟨⟨⟨_, fun o => (World.cell?_of_block (a := ⟨bx, o, none⟩) (Below.heap_setCell _ _ _ _ HNE.out)).trans (HKW.out o)⟩, rfl⟩, ?_⟩
    simp only [tailW]
    clear kf kk
    go_wp2_with fail
    go_ret
    rw [HF.out]
    exact ⟨rfl, HST.out.below, fun _ => ⟨_, _, _, HST.out, by rw [List.map_append, HC.out]; rfl⟩⟩
end Go.Proofs.YteblddnoegbalaaGreat
namespace Go.Proofs.YteblddnoegbalaaGreat
open Go.RowKit
attribute [local go_sem] memUpon
def ad2Φ (B i1 i2 : Nat) (R : PBC × Int) (i : Nat) (_ : List Value) (v : Value) (lo hi : Nat) (w : World) : Prop :=
  (i = i1 ∧ nmR B R v w) ∨ (i = i2 ∧ v = .pointer (some ⟨lo, 0, none⟩) ∧ lo < hi ∧ Blk w lo [.slice none 0 0, .slice none 0 0, .int .i64 0] 25)
theorem ad2Φ_later (B i1 i2 : Nat) (R : PBC × Int) : ∀ i args v lo hi w w', ad2Φ B i1 i2 R i args v lo hi w → Below w.heap.size w w' → ad2Φ B i1 i2 R i args v lo hi w' := fun _ _ _ _ _ _ _ h hb => by
  rcases h with ⟨e, h1⟩ | ⟨e, h1, h2, h3⟩
  · exact .inl ⟨e, h1.below hb⟩
  · exact .inr ⟨e, h1, h2, h3.below hb⟩
theorem nmR.of_cu {B : Nat} {w : World} {R : PBC × Int} {e : Ending} {w' : World} (h : CuOut w R e w') (hb : B ≤ w.heap.size) : ∃ v, e = .returned v ∧ Below w.heap.size w w' ∧ nmR B R v w' := by
  obtain ⟨vp, rfl, ⟨vl, vk, rfl, h3, h4, h5, h6, h7⟩, hb1⟩ := h
  obtain ⟨al, cl, rfl⟩ := h3.slen
  obtain ⟨ak, ck, rfl⟩ := h4.slen
  exact ⟨_, rfl, hb1, al, cl, ak, ck, rfl, h3.mono hb, h4.mono hb, h5, h6, h7⟩
set_option maxHeartbeats 4000000 in
set_option maxRecDepth 100000 in
theorem sdo2_any {w0 W : World} {db : List PBC} {sb bx : Nat} {v vdb : Value} {L : List CQ} {n : Int} (h : StkSt w0 db sb v vdb L W) (hx : Blk W bx [.pointer (some ⟨sb, 0, none⟩)] 194) (hn : InI n) (hl : L.length ≤ 100000) :
    Calls Tryz.prog 206 #[.int .i64 n, .pointer (some ⟨bx, 0, none⟩)] W (TopOut w0 db sb (doP db ⟨2, n⟩ (L.map (·.1)))) := by
  obtain ⟨a1, c1, rfl⟩ := h.row.slen
  have HS := Lib.hid h
  have kb0 := h.box.cell
  have zb0 := h.box.lt
  have kx0 := hx.cell 0
  have zx0 := hx.lt
  have HX := Lib.hid hx
  have HNE : Hid (bx ≠ sb) := Lib.hid (fun e => by
    subst e
    have h1 := h.box
    unfold Blk at hx h1
    rw [hx] at h1
    simp at h1)
  have hi := hn
  unfold InI at hi
  clear hx
  by_cases hbad : L.length < 2 ∨ n ≠ 0
  · have HF : Hid (doP db ⟨2, n⟩ (L.map (·.1)) = ([], 2)) := Lib.hid (by unfold doP; rw [if_neg (show ¬ (2 : Int) = 1 by decide), if_pos rfl, List.length_map, if_pos hbad])
    clear h
    by_cases h1 : L.length < 2
    · have h2 : (L.length : Int) - 2 < 0 := by omega
      clear hbad
      go_enter Tryz.func206, Tryz.ntmps206
      go_wp2
      go_ret
      rw [HF.out]
      exact ⟨rfl, HS.out.below, fun e => absurd e (by decide)⟩
    · have h2 : ¬ (L.length : Int) - 2 < 0 := by omega
      have h3 : (n != 0) = true := by
        rcases hbad with h | h
        · exact absurd h h1
        · simpa using h
      clear hbad
      go_enter Tryz.func206, Tryz.ntmps206
      go_wp2
      go_ret
      rw [HF.out]
      exact ⟨rfl, HS.out.below, fun e => absurd e (by decide)⟩
  · obtain ⟨k, hk⟩ : ∃ k, L.length = k + 2 := ⟨L.length - 2, by omega⟩
    obtain rfl : n = 0 := by
      apply Classical.byContradiction
      intro h
      exact hbad (.inr h)
    obtain ⟨g, cap, vl, vk, e1, hg, hgl, hne, hfz, hc0, hc1, hc2, hpb⟩ := h.elem (k := k) (by omega)
    simp only [Value.slice.injEq, true_and] at e1
    obtain ⟨rfl, rfl⟩ := e1
    obtain ⟨g', cap', ul, uk, e2, -, -, -, -, hd0, hd1, hd2, hpd⟩ := h.elem (k := k + 1) (by omega)
    simp only [Value.slice.injEq, Option.some.injEq, Addr.mk.injEq, and_true, true_and] at e2
    obtain ⟨rfl, rfl⟩ := e2
    obtain ⟨c, hc⟩ : ∃ c, ixC (L.map (·.1)) k = c := ⟨_, rfl⟩
    obtain ⟨d, hd⟩ : ∃ d, ixC (L.map (·.1)) (k + 1) = d := ⟨_, rfl⟩
    rw [hc] at hc2 hpb
    rw [hd] at hd2 hpd
    obtain ⟨R, hR⟩ : ∃ R, addP c d = R := ⟨_, rfl⟩
    have HF : Hid (doP db ⟨2, 0⟩ (L.map (·.1)) = ((L.map (·.1)).take k ++ [R.1], R.2)) := Lib.hid (by
      unfold doP
      rw [if_neg (show ¬ (2 : Int) = 1 by decide), if_pos rfl, List.length_map, if_neg hbad, hk, Nat.add_sub_cancel, show k + 2 - 1 = k + 1 by omega, hc, hd, hR])
    have HR := Lib.hid hR
    have HP := Lib.hid hpb
    have HD := Lib.hid hpd
    have HK := Lib.hid hk
    obtain ⟨L1, hL1⟩ : ∃ L1, L.take k = L1 := ⟨_, rfl⟩
    have HCUT : Hid (RowP w0 (.slice (some ⟨g, 0, none⟩) k c1) L1 W) := Lib.hid (hL1 ▸ h.row.cut (by omega))
    have HL1 := Lib.hid hL1
    have HLN : Hid (L1.length = k) := Lib.hid (by rw [← hL1, List.length_take]; omega)
    have hc1' : k + 2 ≤ c1 := by
      rcases h.row.row.2 with ⟨e, -⟩ | ⟨_, _, _, e, -, -, hn', -⟩
      · cases e
      · simp only [Value.slice.injEq, Option.some.injEq, Addr.mk.injEq, and_true] at e
        omega
    clear hL1
    have hkl : k ≤ 100000 := by omega
    rw [hk] at kb0
    have hw0 := h.below.size
    clear hc hd hR hpb hpd hg h hbad hk hl hi hn
    go_enter Tryz.func206, Tryz.ntmps206
    go_upto_region 4 with fail
    have ex1 : ∀ e : Ext W, e.world.cell? ⟨bx, 0, none⟩ = some (.pointer (some ⟨sb, 0, none⟩)) := fun e => (bcell e.below _ _ zx0).trans kx0
    have ex2 : ∀ e : Ext W, ∀ o, e.world.cell? ⟨sb, o, none⟩ = _ := fun e o => (bcell e.below _ _ zb0).trans (kb0 o)
    have ex3 : ∀ e : Ext W, e.world.cell? ⟨g, k * 3, none⟩ = some vl := fun e => (bcell e.below _ _ hgl).trans hc0
    have ex4 : ∀ e : Ext W, e.world.cell? ⟨g, k * 3 + 1, none⟩ = some vk := fun e => (bcell e.below _ _ hgl).trans hc1
    have ex5 : ∀ e : Ext W, e.world.cell? ⟨g, k * 3 + 2, none⟩ = some (.int .i64 c.bound) := fun e => (bcell e.below _ _ hgl).trans hc2
    have ex6 : ∀ e : Ext W, e.world.cell? ⟨g, (k + 1) * 3, none⟩ = some ul := fun e => (bcell e.below _ _ hgl).trans hd0
    have ex7 : ∀ e : Ext W, e.world.cell? ⟨g, (k + 1) * 3 + 1, none⟩ = some uk := fun e => (bcell e.below _ _ hgl).trans hd1
    have ex8 : ∀ e : Ext W, e.world.cell? ⟨g, (k + 1) * 3 + 2, none⟩ = some (.int .i64 d.bound) := fun e => (bcell e.below _ _ hgl).trans hd2
    have hz8 : ∀ e : Ext W, True := fun _ => trivial
    clear hc0 hc1 hc2 hd0 hd1 hd2 hfz
    refine wp_region_tail' 20 (fun _ => True) (ad2Φ w0.heap.size 15 19 R) (fun i => i == 15 || i == 19) (by kernel_rfl) (by kernel_rfl) (by kernel_rfl) (fun _ _ => trivial) (ad2Φ_later _ _ _ _) ?_
    simp only [List.take_succ_cons, List.take_zero, List.drop_succ_cons, List.drop_zero]
    iterate 15 (refine walkP_head (by kernel_rfl) rfl rfl rfl (fun K hK => ?_); go_big_quiet_op; refine hK _ ?_; clear hK K)
    refine walkP_mem rfl rfl (fun wa hba hFa => ?_) (fun v1 lo1 hi1 l1 g1 h1 => ?_)
    · go_simp
      refine (cadd_any _ _ c d wa (HP.out.below hba) (HD.out.below hba)).mono fun e w5 h5 => ?_
      rw [HR.out] at h5
      obtain ⟨v, h6, h7, h8⟩ := nmR.of_cu (B := w0.heap.size) h5 (by have := hba.size; omega)
      exact ⟨v, h6, h7, .inl ⟨rfl, h8⟩⟩
    obtain ⟨al, cl, ak, ck, rfl⟩ : ∃ al cl ak ck, v1 = .tuple #[.agg #[.slice al R.1.lits.length cl, .slice ak R.1.coefs.length ck, .int .i64 R.1.bound], .int .i64 R.2] := by
      obtain ⟨_, h⟩ := h1
      rcases h with ⟨-, al, cl, ak, ck, h, -⟩ | ⟨h, -⟩
      · exact ⟨al, cl, ak, ck, h⟩
      · exact absurd h (by decide)
    simp only [Act.put, List.setIfInBounds_toArray, List.set_cons_succ, List.set_cons_zero]
    iterate 2 (refine walkP_head (by kernel_rfl) rfl rfl rfl (fun K hK => ?_); go_big_quiet_op; refine hK _ ?_; clear hK K)
    iterate 1 (refine walkP_late (by kernel_rfl) rfl rfl rfl (fun K hK => ?_); go_big_quiet_op; refine hK _ ?_; clear hK K)
    refine walkP_mem rfl rfl (fun wa hba hFa => ?_) (fun v2 lo2 hi2 l2 g2 h2 => ?_)
    · go_simp
      exact ⟨bal (Below.refl _ _) _, .inr ⟨rfl, rfl, by simp, Blk.new _ _ _⟩⟩
    obtain rfl : v2 = .pointer (some ⟨lo2, 0, none⟩) := by
      obtain ⟨_, h⟩ := h2
      rcases h with ⟨h, -⟩ | ⟨-, h, -⟩
      · exact absurd h (by decide)
      · exact h
    simp only [Act.put, List.setIfInBounds_toArray, List.set_cons_succ, List.set_cons_zero]
    intro wx hbx hF hI hP
    have f1 : Blk wx lo2 [.slice none 0 0, .slice none 0 0, .int .i64 0] 25 := by
      rcases hF _ (.head _) with ⟨e, -⟩ | ⟨-, -, -, h⟩
      · exact absurd e (by decide)
      · exact h
    obtain ⟨q1, q2, q3, q4, q5⟩ : QRow w0.heap.size wx (.slice al R.1.lits.length cl) R.1.lits ∧ QRow w0.heap.size wx (.slice ak R.1.coefs.length ck) R.1.coefs ∧ InI R.1.bound ∧ R.1.lits.length ≤ 65536 ∧ R.1.coefs.length ≤ 65536 := by
      rcases hF _ (.tail _ (.head _)) with ⟨-, _, _, _, _, e, h⟩ | ⟨e, -⟩
      · simp only [Value.tuple.injEq, Array.mk.injEq, List.cons.injEq, Value.agg.injEq, Value.slice.injEq, and_true, true_and] at e
        obtain ⟨⟨rfl, rfl⟩, rfl, rfl⟩ := e
        exact h
      · exact absurd e (by decide)
    have kf := f1.free
    have kc := f1.cell
    have HB5 : Hid (Below W.heap.size W (((wx.setCell ⟨lo2, 0, none⟩ (.slice al R.1.lits.length cl)).setCell ⟨lo2, 1, none⟩ (.slice ak R.1.coefs.length ck)).setCell ⟨lo2, 2, none⟩ (.int .i64 R.1.bound))) := Lib.hid (((hbx.setCell (p := ⟨lo2, 0, none⟩) l2 _).setCell (p := ⟨lo2, 1, none⟩) l2 _).setCell (p := ⟨lo2, 2, none⟩) l2 _)
    have HBC := Lib.hid (((f1.set 0 (.slice al R.1.lits.length cl)).set 1 (.slice ak R.1.coefs.length ck)).set 2 (.int .i64 R.1.bound))
    have HQ1 := Lib.hid (((q1.store f1 (by decide) 0 (.slice al R.1.lits.length cl)).store (f1.set 0 _) (by decide) 1 (.slice ak R.1.coefs.length ck)).store ((f1.set 0 _).set 1 _) (by decide) 2 (.int .i64 R.1.bound))
    have HQ2 := Lib.hid (((q2.store f1 (by decide) 0 (.slice al R.1.lits.length cl)).store (f1.set 0 _) (by decide) 1 (.slice ak R.1.coefs.length ck)).store ((f1.set 0 _).set 1 _) (by decide) 2 (.int .i64 R.1.bound))
    have HQ3 := Lib.hid (And.intro q3 (And.intro q4 q5))
    clear hF hI hP f1 q1 q2 q3 q4 q5 hbx ex1 ex2 ex3 ex4 ex5 ex6 ex7 ex8 hz8 h1 h2
    iterate 2 (refine ⟨rfl, rfl, ?_⟩; go_simp)
    simp only [tailW]
    clear kf kc
    generalize ((wx.setCell ⟨lo2, 0, none⟩ (.slice al R.1.lits.length cl)).setCell ⟨lo2, 1, none⟩ (.slice ak R.1.coefs.length ck)).setCell ⟨lo2, 2, none⟩ (.int .i64 R.1.bound) = w5 at *
    have HS5 := Lib.hid (HS.out.on HB5.out)
    have HX5 := Lib.hid (HX.out.below HB5.out)
    have HC5 := Lib.hid (HCUT.out.below HB5.out)
    have zx5 := HX5.out.lt
    have zb5 := HS5.out.box.lt
    have zl5 := HBC.out.lt
    have ex1 : ∀ e : Ext w5, e.world.cell? ⟨bx, 0, none⟩ = some (.pointer (some ⟨sb, 0, none⟩)) := fun e => (bcell e.below _ _ zx5).trans (HX5.out.cell 0)
    have ex2 : ∀ e : Ext w5, ∀ o, e.world.cell? ⟨sb, o, none⟩ = _ := fun e o => (bcell e.below _ _ zb5).trans (HS5.out.box.cell o)
    have ex3 : ∀ e : Ext w5, ∀ o, e.world.cell? ⟨lo2, o, none⟩ = _ := fun e o => (bcell e.below _ _ zl5).trans (HBC.out.cell o)
    rw [HK.out] at ex2
    simp only [List.set_cons_zero, List.set_cons_succ] at ex3
    have kb : ∀ e : KeepB w5 bx, e.world.cell? ⟨bx, 0, none⟩ = some (.pointer (some ⟨sb, 0, none⟩)) := fun e => (e.cell 0).trans (HX5.out.cell 0)
    clear kb0 kx0
    go_upto_region 5 with fail
    refine wp_region_tail' 9 (fun w' => ∃ e : KeepB w5 bx, w' = e.world) (puΦ 8 (.slice al R.1.lits.length cl) (.slice ak R.1.coefs.length ck) (.int .i64 R.1.bound)) (fun i => i == 8) (by kernel_rfl) (by kernel_rfl) (by kernel_rfl) (fun w' hb => ⟨⟨w', fun o => bcell hb _ _ zx5⟩, rfl⟩) (puΦ_later _ _ _ _) ?_
    simp only [List.take_succ_cons, List.take_zero, List.drop_succ_cons, List.drop_zero]
    iterate 1 (refine walkP_late (by kernel_rfl) rfl rfl rfl (fun K hK => ?_); go_big_quiet_op; refine hK _ ?_; clear hK K)
    iterate 7 (refine walkP_head (by kernel_rfl) rfl rfl rfl (fun K hK => ?_); go_big_quiet_op; refine hK _ ?_; clear hK K)
    refine walkP_mem rfl rfl (fun wa hba hFa => ?_) (fun v9 lo9 hi9 l9 g9 h9 => ?_)
    · go_simp
      exact ⟨bal (Below.refl _ _) _, rfl, rfl, by simp, Blk.new _ _ _⟩
    obtain ⟨_, -, rfl, -, -⟩ := h9
    simp only [Act.put, List.setIfInBounds_toArray, List.set_cons_succ, List.set_cons_zero]
    intro wx hbx hF hI hP
    obtain ⟨-, -, -, F9⟩ := hF _ (.head _)
    have HF9 := Lib.hid F9
    have HSX := Lib.hid (HS5.out.on hbx)
    have HXX := Lib.hid (HX5.out.below hbx)
    have HCX := Lib.hid (HC5.out.below hbx)
    have HKX := Lib.hid (bcell hbx bx)
    have HQ1X := Lib.hid (HQ1.out.below hbx)
    have HQ2X := Lib.hid (HQ2.out.below hbx)
    clear F9 hF hI hP hbx ex1 ex2 ex3 kb
    refine ⟨rfl, rfl, ?_⟩
    refine wp_appendRP _ _ rfl w0 _ L1 (R.1, .slice al R.1.lits.length cl, .slice ak R.1.coefs.length ck) rfl HCX.out lo9 1 rfl HF9.out (PBX.own HQ1X.out HQ2X.out HQ3.out.1 HQ3.out.2.1 HQ3.out.2.2) (by rw [HLN.out]; omega) HSX.out.below ?_
    intro g2 cap w7 hr7 hg7 hb7
    have hst := HSX.out.push HCX.out hr7 hg7 hb7
    have hsb := (HSX.out.box.same (hg7.block sb HSX.out.box.lt fun e => HCX.out.far HSX.out.box (by decide) e.symm))
    have kf := hsb.free
    have kk := hsb.cell
    have HKW : Hid (∀ o, w7.cell? ⟨bx, o, none⟩ = w5.cell? ⟨bx, o, none⟩) := Lib.hid (fun o => (World.cell?_of_block (a := ⟨bx, o, none⟩) (hg7.block bx HXX.out.lt fun e => HCX.out.far HXX.out (by decide) e.symm)).trans (HKX.out o zx5))
    have hkx : ∃ e : KeepB w5 bx, w7 = e.world := ⟨⟨w7, HKW.out⟩, rfl⟩
    have HST := Lib.hid hst
    have HKK := Lib.hid hkx
    clear hst hr7 hg7 hb7 hsb hkx
    refine ⟨HKK.out, rfl, rfl, ?_⟩
    go_simp
    refine ⟨HKK.out, rfl, rfl, ?_⟩
    go_simp
    refine ⟨HKK.out, rfl, rfl, ?_⟩
    go_simp
    refine ⟨⟨⟨_, fun o => (World.cell?_of_block (a := ⟨bx, o, none⟩) (Below.heap_setCell _ _ _ _ HNE.out)).trans (HKW.out o)⟩, rfl⟩, ?_⟩
    simp only [tailW]
    clear kf kk
    go_wp2_with fail
    go_ret
    rw [HF.out]
    exact ⟨rfl, HST.out.below, fun _ => ⟨_, _, _, HST.out, by rw [List.map_append, ← HL1.out, List.map_take]; rfl⟩⟩
set_option maxHeartbeats 1000000 in
theorem sdo3_any {w0 W : World} {db : List PBC} {sb bx : Nat} {v vdb : Value} {L : List CQ} {n : Int} (h : StkSt w0 db sb v vdb L W) (hx : Blk W bx [.pointer (some ⟨sb, 0, none⟩)] 194) (hn : InI n) (hl : L.length ≤ 100000) :
    Calls Tryz.prog 208 #[.int .i64 n, .pointer (some ⟨bx, 0, none⟩)] W (TopOut w0 db sb (doP db ⟨3, n⟩ (L.map (·.1)))) := by
  have HF : Hid (doP db ⟨3, n⟩ (L.map (·.1)) = topP mulP (L.map (·.1)) n) := Lib.hid rfl
  have HS := Lib.hid h
  have kx0 := hx.cell 0
  have hi := hn
  clear h hx
  go_enter Tryz.func208, Tryz.ntmps208
  go_wp2_with (go_at_call 209; (with_reducible refine (stop_mul HS.out hi hl).mono ?_); rintro e w1 ⟨rfl, hb1, hs1⟩; have HB1 := Lib.hid hb1; have HS1 := Lib.hid hs1; clear hb1 hs1)
  go_ret
  rw [HF.out]
  exact ⟨rfl, HB1.out, HS1.out⟩
set_option maxHeartbeats 1000000 in
theorem sdo4_any {w0 W : World} {db : List PBC} {sb bx : Nat} {v vdb : Value} {L : List CQ} {n : Int} (h : StkSt w0 db sb v vdb L W) (hx : Blk W bx [.pointer (some ⟨sb, 0, none⟩)] 194) (hn : InI n) (hl : L.length ≤ 100000) :
    Calls Tryz.prog 211 #[.int .i64 n, .pointer (some ⟨bx, 0, none⟩)] W (TopOut w0 db sb (doP db ⟨4, n⟩ (L.map (·.1)))) := by
  have HF : Hid (doP db ⟨4, n⟩ (L.map (·.1)) = topP divP (L.map (·.1)) n) := Lib.hid rfl
  have HS := Lib.hid h
  have kx0 := hx.cell 0
  have hi := hn
  clear h hx
  go_enter Tryz.func211, Tryz.ntmps211
  go_wp2_with (go_at_call 209; (with_reducible refine (stop_div HS.out hi hl).mono ?_); rintro e w1 ⟨rfl, hb1, hs1⟩; have HB1 := Lib.hid hb1; have HS1 := Lib.hid hs1; clear hb1 hs1)
  go_ret
  rw [HF.out]
  exact ⟨rfl, HB1.out, HS1.out⟩
set_option maxHeartbeats 1000000 in
theorem sdo5_any {w0 W : World} {db : List PBC} {sb bx : Nat} {v vdb : Value} {L : List CQ} {n : Int} (h : StkSt w0 db sb v vdb L W) (hx : Blk W bx [.pointer (some ⟨sb, 0, none⟩)] 194) (hn : InI n) (hl : L.length ≤ 100000) :
    Calls Tryz.prog 213 #[.int .i64 n, .pointer (some ⟨bx, 0, none⟩)] W (TopOut w0 db sb (doP db ⟨5, n⟩ (L.map (·.1)))) := by
  have HF : Hid (doP db ⟨5, n⟩ (L.map (·.1)) = topP weakP (L.map (·.1)) n) := Lib.hid rfl
  have HS := Lib.hid h
  have kx0 := hx.cell 0
  have hi := hn
  clear h hx
  go_enter Tryz.func213, Tryz.ntmps213
  go_wp2_with (go_at_call 209; (with_reducible refine (stop_weak HS.out hi hl).mono ?_); rintro e w1 ⟨rfl, hb1, hs1⟩; have HB1 := Lib.hid hb1; have HS1 := Lib.hid hs1; clear hb1 hs1)
  go_ret
  rw [HF.out]
  exact ⟨rfl, HB1.out, HS1.out⟩
end Go.Proofs.YteblddnoegbalaaGreat
namespace Go.Proofs.YteblddnoegbalaaGreat
open Go.RowKit Go.MapKept
theorem kvU8 : KV (Value.int .u8) (.int .u8) := ⟨fun a b h => by injection h, fun _ => rfl⟩
section
variable {κ : Type} {kv : κ → Value} {d : TypeDesc} {P : Program} {w : World}
theorem wpList_minsert [DecidableEq κ] {ops : Array Oper} {rest : List Oper} {o : Oper} {a : Act} {Q : Exit → Act → World → Prop} (g : κ → Option Value) (b : Nat) (k : κ) (v : Value) (V : KV kv d) (t kt et : TypeId) (ht : P.underlying t = some (.map kt et)) (hd : P.underlying kt = some d)
    (hg : o.guard = none) (m x y : Operand) (hop : o.op = Op.insert t m x y) (hm : a.eval m = .map (some b)) (hx : a.eval x = kv k) (hy : a.eval y = v) (h : MapIs kv w b g)
    (hK : ∀ w', MapIs kv w' b (upd g k (some v)) → w.grownBy w' (some b) → w'.heap.size = w.heap.size → wpList P ops Q rest (a.put o.dst undef) w') : wpList P ops Q (o :: rest) a w := by
  refine wpList_plain hg fun K' hK' => ?_
  obtain ⟨w', hrun, r1, r2, r3⟩ := h.update V ht hd k v
  unfold Oper.wp
  simp [execOp, hop, hm, hx, hy, hrun, Result.andThen]
  exact hK' _ _ (hK w' r1 r2 r3)
end
end Go.Proofs.YteblddnoegbalaaGreat
namespace Go.Proofs.YteblddnoegbalaaGreat
open Go.RowKit Go.MapKept
attribute [local go_sem] memUpon
theorem below_put36 {n mb : Nat} {w0 w w' : World} (h : Below n w0 w) (hg : w.grownBy w' (some mb)) (hmb : n ≤ mb) (hsz : n ≤ w.heap.size) : Below n w0 w' :=
  h.trans ⟨hg.os, hg.tape, hg.output, hg.size, fun i hi => hg.block i (by omega) (fun e => by have := Option.some.inj e; omega)⟩
def doM (bx : Nat) : Int → Option Value :=
  upd (upd (upd (upd (upd (fun _ => none) 1 (some (.func (.func 205) #[] #[.pointer (some ⟨bx, 0, none⟩)]))) 2 (some (.func (.func 206) #[] #[.pointer (some ⟨bx, 0, none⟩)])))
    3 (some (.func (.func 208) #[] #[.pointer (some ⟨bx, 0, none⟩)]))) 4 (some (.func (.func 211) #[] #[.pointer (some ⟨bx, 0, none⟩)]))) 5 (some (.func (.func 213) #[] #[.pointer (some ⟨bx, 0, none⟩)]))
set_option maxHeartbeats 4000000 in
set_option maxRecDepth 100000 in
theorem sdo_any {w0 W : World} {db s : List PBC} {sb : Nat} {op : OP} (hs : Stk w0 db sb s W) (hop : OpI op) (hl : s.length ≤ 100000) :
    Calls Tryz.prog 162 #[.pointer (some ⟨sb, 0, none⟩), .agg #[.int .u8 op.kind, .int .i64 op.n]] W (TopOut w0 db sb (doP db op s)) := by
  obtain ⟨v, vdb, L, h, rfl⟩ := hs
  rw [List.length_map] at hl
  obtain ⟨kd, n⟩ := op
  obtain ⟨hk, hn⟩ := hop
  dsimp only at hk hn ⊢
  have hal := bal (bal (Below.refl W.heap.size W) (.cells #[.pointer (some ⟨sb, 0, none⟩)] 194)) (.cells #[.int .u8 kd, .int .i64 n] 64)
  have HS0 := Lib.hid (h.on hal)
  have HX0 : Hid (Blk ((W.alloc (.cells #[.pointer (some ⟨sb, 0, none⟩)] 194)).alloc (.cells #[.int .u8 kd, .int .i64 n] 64)) W.heap.size [.pointer (some ⟨sb, 0, none⟩)] 194) := Lib.hid (by repeat first | (refine Blk.newAt _ _ _ ?_; first | rfl | (simp only [World.size_alloc]; done) | (simp only [World.size_alloc]; omega)) | refine Blk.alloc ?_ _)
  have HY0 : Hid (Blk ((W.alloc (.cells #[.pointer (some ⟨sb, 0, none⟩)] 194)).alloc (.cells #[.int .u8 kd, .int .i64 n] 64)) (W.heap.size + 1) [.int .u8 kd, .int .i64 n] 64) := Lib.hid (by repeat first | (refine Blk.newAt _ _ _ ?_; first | rfl | (simp only [World.size_alloc]; done) | (simp only [World.size_alloc]; omega)) | refine Blk.alloc ?_ _)
  have hz0 : ((W.alloc (.cells #[.pointer (some ⟨sb, 0, none⟩)] 194)).alloc (.cells #[.int .u8 kd, .int .i64 n] 64)).heap.size = W.heap.size + 2 := by simp
  have HZ0 := Lib.hid hz0
  have HN := Lib.hid hn
  clear h hal hz0 hn
  go_enter Tryz.func162, Tryz.ntmps162
  go_upto_region 1 with fail
  generalize (W.alloc (.cells #[.pointer (some ⟨sb, 0, none⟩)] 194)).alloc (.cells #[.int .u8 kd, .int .i64 n] 64) = W0 at *
  have hmm := @run_makeMap Tryz.prog
  have HM0 : Hid (MapIs (Value.int .u8) (W0.alloc (.map #[] 0)) W0.heap.size (fun _ => none)) := Lib.hid (MapIs.made W0)
  have HB0 : Hid (Below W0.heap.size W0 (W0.alloc (.map #[] 0))) := Lib.hid (bal (Below.refl _ _) _)
  go_upto_region 2 with (first
    | ((refine wpList_minsert _ (W0.heap.size) (5 : Int) (.func (.func 213) #[] #[.pointer (some ⟨W.heap.size, 0, none⟩)]) kvU8 227 5 223 Tryz.underlying227 Tryz.underlying5 rfl _ _ _ rfl rfl rfl rfl HM4.out ?_); intro w5 hm5 hg5 hs5; have HM5 : Hid (MapIs (Value.int .u8) w5 W0.heap.size (doM W.heap.size)) := Lib.hid hm5; have HB5 := Lib.hid (below_put36 HB4.out hg5 (Nat.le_refl _) HB4.out.size); clear hm5 hg5 hs5)
    | ((refine wpList_minsert _ (W0.heap.size) (4 : Int) (.func (.func 211) #[] #[.pointer (some ⟨W.heap.size, 0, none⟩)]) kvU8 227 5 223 Tryz.underlying227 Tryz.underlying5 rfl _ _ _ rfl rfl rfl rfl HM3.out ?_); intro w4 hm4 hg4 hs4; have HM4 := Lib.hid hm4; have HB4 := Lib.hid (below_put36 HB3.out hg4 (Nat.le_refl _) HB3.out.size); clear hm4 hg4 hs4)
    | ((refine wpList_minsert _ (W0.heap.size) (3 : Int) (.func (.func 208) #[] #[.pointer (some ⟨W.heap.size, 0, none⟩)]) kvU8 227 5 223 Tryz.underlying227 Tryz.underlying5 rfl _ _ _ rfl rfl rfl rfl HM2.out ?_); intro w3 hm3 hg3 hs3; have HM3 := Lib.hid hm3; have HB3 := Lib.hid (below_put36 HB2.out hg3 (Nat.le_refl _) HB2.out.size); clear hm3 hg3 hs3)
    | ((refine wpList_minsert _ (W0.heap.size) (2 : Int) (.func (.func 206) #[] #[.pointer (some ⟨W.heap.size, 0, none⟩)]) kvU8 227 5 223 Tryz.underlying227 Tryz.underlying5 rfl _ _ _ rfl rfl rfl rfl HM1.out ?_); intro w2 hm2 hg2 hs2; have HM2 := Lib.hid hm2; have HB2 := Lib.hid (below_put36 HB1.out hg2 (Nat.le_refl _) HB1.out.size); clear hm2 hg2 hs2)
    | ((refine wpList_minsert _ (W0.heap.size) (1 : Int) (.func (.func 205) #[] #[.pointer (some ⟨W.heap.size, 0, none⟩)]) kvU8 227 5 223 Tryz.underlying227 Tryz.underlying5 rfl _ _ _ rfl rfl rfl rfl HM0.out ?_); intro w1 hm1 hg1 hs1; have HM1 := Lib.hid hm1; have HB1 := Lib.hid (below_put36 HB0.out hg1 (Nat.le_refl _) HB0.out.size); clear hm1 hg1 hs1))
  have HS5 := Lib.hid (HS0.out.on HB5.out)
  have HX5 := Lib.hid (HX0.out.below HB5.out)
  have kop := (HY0.out.below HB5.out).cell
  clear HM0 HM1 HM2 HM3 HM4 HB0 HB1 HB2 HB3 HB4 hmm
  rcases (show kd = 1 ∨ kd = 2 ∨ kd = 3 ∨ kd = 4 ∨ kd = 5 ∨ (kd ≠ 1 ∧ kd ≠ 2 ∧ kd ≠ 3 ∧ kd ≠ 4 ∧ kd ≠ 5) by omega) with rfl | rfl | rfl | rfl | rfl | hk6
  · obtain ⟨R, hR⟩ : ∃ R, doP db ⟨1, n⟩ (L.map (·.1)) = R := ⟨_, rfl⟩
    have HRR := Lib.hid hR
    have HCON := Lib.hid (sdo1_any HS5.out HX5.out HN.out hl)
    rw [hR] at HCON
    have hlk := HM5.out.lookup_ok kvU8 Tryz.underlying227 Tryz.underlying5 (Tryz.zeroValue223 w5) (1 : Int)
    simp only [doM, upd, Int.reduceEq, if_true, if_false, Option.getD_some, Option.isSome_some] at hlk
    clear hR
    go_wp2_with (go_at_call 205; (with_reducible refine (HCON.out).mono ?_); rintro e w7 ⟨rfl, hb7, hs7⟩; have HB7 := Lib.hid hb7; have HS7 := Lib.hid hs7; clear hb7 hs7)
    go_ret
    rw [HRR.out]
    exact ⟨rfl, HB7.out, HS7.out⟩
  · obtain ⟨R, hR⟩ : ∃ R, doP db ⟨2, n⟩ (L.map (·.1)) = R := ⟨_, rfl⟩
    have HRR := Lib.hid hR
    have HCON := Lib.hid (sdo2_any HS5.out HX5.out HN.out hl)
    rw [hR] at HCON
    have hlk := HM5.out.lookup_ok kvU8 Tryz.underlying227 Tryz.underlying5 (Tryz.zeroValue223 w5) (2 : Int)
    simp only [doM, upd, Int.reduceEq, if_true, if_false, Option.getD_some, Option.isSome_some] at hlk
    clear hR
    go_wp2_with (go_at_call 206; (with_reducible refine (HCON.out).mono ?_); rintro e w7 ⟨rfl, hb7, hs7⟩; have HB7 := Lib.hid hb7; have HS7 := Lib.hid hs7; clear hb7 hs7)
    go_ret
    rw [HRR.out]
    exact ⟨rfl, HB7.out, HS7.out⟩
  · obtain ⟨R, hR⟩ : ∃ R, doP db ⟨3, n⟩ (L.map (·.1)) = R := ⟨_, rfl⟩
    have HRR := Lib.hid hR
    have HCON := Lib.hid (sdo3_any HS5.out HX5.out HN.out hl)
    rw [hR] at HCON
    have hlk := HM5.out.lookup_ok kvU8 Tryz.underlying227 Tryz.underlying5 (Tryz.zeroValue223 w5) (3 : Int)
    simp only [doM, upd, Int.reduceEq, if_true, if_false, Option.getD_some, Option.isSome_some] at hlk
    clear hR
    go_wp2_with (go_at_call 208; (with_reducible refine (HCON.out).mono ?_); rintro e w7 ⟨rfl, hb7, hs7⟩; have HB7 := Lib.hid hb7; have HS7 := Lib.hid hs7; clear hb7 hs7)
    go_ret
    rw [HRR.out]
    exact ⟨rfl, HB7.out, HS7.out⟩
  · obtain ⟨R, hR⟩ : ∃ R, doP db ⟨4, n⟩ (L.map (·.1)) = R := ⟨_, rfl⟩
    have HRR := Lib.hid hR
    have HCON := Lib.hid (sdo4_any HS5.out HX5.out HN.out hl)
    rw [hR] at HCON
    have hlk := HM5.out.lookup_ok kvU8 Tryz.underlying227 Tryz.underlying5 (Tryz.zeroValue223 w5) (4 : Int)
    simp only [doM, upd, Int.reduceEq, if_true, if_false, Option.getD_some, Option.isSome_some] at hlk
    clear hR
    go_wp2_with (go_at_call 211; (with_reducible refine (HCON.out).mono ?_); rintro e w7 ⟨rfl, hb7, hs7⟩; have HB7 := Lib.hid hb7; have HS7 := Lib.hid hs7; clear hb7 hs7)
    go_ret
    rw [HRR.out]
    exact ⟨rfl, HB7.out, HS7.out⟩
  · obtain ⟨R, hR⟩ : ∃ R, doP db ⟨5, n⟩ (L.map (·.1)) = R := ⟨_, rfl⟩
    have HRR := Lib.hid hR
    have HCON := Lib.hid (sdo5_any HS5.out HX5.out HN.out hl)
    rw [hR] at HCON
    have hlk := HM5.out.lookup_ok kvU8 Tryz.underlying227 Tryz.underlying5 (Tryz.zeroValue223 w5) (5 : Int)
    simp only [doM, upd, Int.reduceEq, if_true, if_false, Option.getD_some, Option.isSome_some] at hlk
    clear hR
    go_wp2_with (go_at_call 213; (with_reducible refine (HCON.out).mono ?_); rintro e w7 ⟨rfl, hb7, hs7⟩; have HB7 := Lib.hid hb7; have HS7 := Lib.hid hs7; clear hb7 hs7)
    go_ret
    rw [HRR.out]
    exact ⟨rfl, HB7.out, HS7.out⟩
  · obtain ⟨k1, k2, k3, k4, k5⟩ := hk6
    have HF : Hid (doP db ⟨kd, n⟩ (L.map (·.1)) = ([], 2)) := Lib.hid (by unfold doP; rw [if_neg k1, if_neg k2, if_neg k3, if_neg k4, if_neg k5])
    have hlk := HM5.out.lookup_ok kvU8 Tryz.underlying227 Tryz.underlying5 (Tryz.zeroValue223 w5) kd
    simp only [doM, upd, k1, k2, k3, k4, k5, if_false, Option.getD_none, Option.isSome_none] at hlk
    clear k1 k2 k3 k4 k5
    go_wp2
    go_ret
    rw [HF.out]
    exact ⟨rfl, HS5.out.below, fun e => absurd e (by decide)⟩
end Go.Proofs.YteblddnoegbalaaGreat
