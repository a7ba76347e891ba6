/- My texts St4, Vl5, Vl7, Frame, FrameB, FrameL, merged. -/
import Derived.Test.YteblddnoegbalaaGreatM26
import Derived.Shelf.SlSortCmp.Kit1
import Derived.RangeFuncOwn
import Derived.Test.YteblddnoegbalaaGreatM03
import Derived.Test.YteblddnoegbalaaGreatM00
import Derived.Test.YteblddnoegbalaaGreatProg
import Derived.WalkKit
import Derived.Lib.Hide
import Derived.Deep.QuietTactic
import Derived.BigQuiet
import Derived.MapKept
import Derived.Maps.OwnSet
import Derived.Maps.OwnOps
import Derived.Test.YteblddnoegbalaaGreatM04
import Derived.WalkSpells
import Derived.Lib.SliceRun
import Derived.Test.YteblddnoegbalaaGreatM02
import Derived.Test.YteblddnoegbalaaGreatM01
import Derived.Deep.AppendLies
import Derived.Lib.Bytealg
import Derived.Test.YteblddnoegbalaaGreatM27
import Derived.Test.YteblddnoegbalaaGreatM15
import Derived.Test.YteblddnoegbalaaGreatM14
import Derived.Test.YteblddnoegbalaaGreatM07
import Derived.Deep.DeepCutAuto
import Derived.Laws.EntriesVeiled
import Derived.Deep.RegionWith
import Derived.Deep.OwnRows
import Derived.Test.YteblddnoegbalaaGreatM12
import Derived.Test.YteblddnoegbalaaGreatM11
import Derived.RangeFuncNested
import Derived.RangeFuncBound
import Derived.RangeFuncCalls
import Derived.RangeFuncLeaves
import Derived.OwnWalkIn
import Derived.TacticsInMore
import Derived.LoopNIn
import Derived.LoopIn
import Derived.Stop.RegionWithIn
import Derived.Shelf.Abstract
import Derived.Deep.LoopGhost
import Derived.Deep.DrawnRows
import Derived.Deep.RegionHeld3
import Derived.Laws.ResultCell
import Derived.Laws.Rows
import Derived.Deep.RegionLaw
import Derived.Test.YteblddnoegbalaaGreatM20
import Derived.Test.YteblddnoegbalaaGreatM13
import Derived.Deep.AppendSrc
import Derived.Maps.OwnIn
import Derived.Test.YteblddnoegbalaaGreatM08
import Derived.Test.YteblddnoegbalaaGreatM05
import Derived.Test.YteblddnoegbalaaGreatM06
import Derived.Sort.QuietThIn
import Derived.Test.YteblddnoegbalaaGreatM10
import Derived.Test.YteblddnoegbalaaGreatM09
import Derived.Maps.RangeWalk
import Derived.Lib.SlicesCompact
import Derived.Shelf.Sort.Plain
import Derived.Shelf.Slices.CompactI
import Derived.Shelf.Slices.In.SortNone
import Derived.Shelf.Strconv.Itoa3
import Derived.Shelf.Strings.BuilderK
import Derived.Shelf.Slices.SearchI
import Derived.Shelf.Slices.Empties
import Derived.Sort.OwnSortedInts
import Derived.RangeFuncBox
import Derived.Lib.RowBridge
import Derived.Test.YteblddnoegbalaaGreatM19
import Derived.Test.YteblddnoegbalaaGreatM18
import Derived.Test.YteblddnoegbalaaGreatM16
import Derived.Deep.DeepMust
import Derived.Test.YteblddnoegbalaaGreatM17
import Derived.ProofKit
import Derived.OpenShut
import Derived.ChangeArms
import Derived.SizedLaws
import Derived.Test.YteblddnoegbalaaGreatM25
import Derived.Test.YteblddnoegbalaaGreatM24
import Derived.Test.YteblddnoegbalaaGreatM21
import Derived.Laws.Cover1
import Derived.Test.YteblddnoegbalaaGreatM23
import Derived.Test.YteblddnoegbalaaGreatM22
import Derived.Lib.AppendZeros
import Derived.Sort.CutIn
import Derived.Shelf.SlSortCmp.NoneTotal
import Derived.Shelf.SlLaysF

namespace Go.Proofs.YteblddnoegbalaaGreat
open Go.RowKit
structure OutI (B : Nat) (atoms : List Int) (v : Value) (L : List (Nat × Value)) (w : World) : Prop where
  row : w.ownsRow B 23 1 v L.length (L.map (·.2))
  each : ∀ x ∈ L, QRow B w x.2 (sbL atoms x.1)
section
variable {B n : Nat} {atoms : List Int} {xs : List Value} {v : Value} {w w' : World} {L : List (Nat × Value)}
theorem OutI.nil (B : Nat) (atoms : List Int) (w : World) : OutI B atoms (.slice none 0 0) [] w := ⟨⟨by simp, .inl ⟨rfl, rfl⟩⟩, fun q hq => by simp at hq⟩
theorem QRow.rowKeptL {u : Value} {l : List Int} (h : QRow B w u l) (hr : w.ownsRow B 23 1 v n xs) (hg : w.grownBy w' v.ownBlock) : QRow B w' u l := by
  refine h.kept fun i hi hi2 hu => hg.block i hi2 (fun e => ?_)
  rcases hr.2 with ⟨rfl, _⟩ | ⟨g, cap, cur, rfl, hb, hgg, _⟩
  · cases e
  · simp only [Value.ownBlock, Option.some.injEq] at e
    subst e
    rcases h.2 with ⟨rfl, _⟩ | ⟨g', off, cap', cur', rfl, _, hgg', _⟩
    · cases hu
    · simp only [Value.ownBlock, Option.some.injEq] at hu
      subst hu
      rw [hgg'] at hgg
      have := Option.some.inj hgg
      injection this with _ h2 _
      revert h2; decide
theorem OutI.below (h : OutI B atoms v L w) (hb : Below w.heap.size w w') : OutI B atoms v L w' :=
  ⟨rowBelow h.row hb, fun q hq => (h.each q hq).below hb⟩
theorem OutI.push {g cap : Nat} {q : Nat × Value} (h : OutI B atoms v L w) (hq : QRow B w q.2 (sbL atoms q.1))
    (hown : w'.ownsRow B 23 1 (.slice (some ⟨g, 0, none⟩) (L.length + 1) cap) (L.length + 1) (L.map (·.2) ++ [q.2])) (hg : w.grownBy w' v.ownBlock) : OutI B atoms (.slice (some ⟨g, 0, none⟩) (L.length + 1) cap) (L ++ [q]) w' := by
  refine ⟨by simpa using hown, fun q' hq' => ?_⟩
  simp only [List.mem_append, List.mem_singleton] at hq'
  rcases hq' with hq' | rfl
  · exact (h.each q' hq').rowKeptL h.row hg
  · exact hq.rowKeptL h.row hg
theorem OutI.setCell (h : OutI B atoms v L w) {b : Nat} (o : Nat) (u : Value) (hb : b < B) : OutI B atoms v L (w.setCell ⟨b, o, none⟩ u) := by
  have hk : ∀ i, B ≤ i → (w.setCell ⟨b, o, none⟩ u).heap[i]? = w.heap[i]? := fun i hi => Below.heap_setCell _ _ _ _ (show i ≠ b by omega)
  refine ⟨⟨h.row.1, ?_⟩, fun q hq => (h.each q hq).kept fun i hi _ _ => hk i hi⟩
  rcases h.row.2 with hn | ⟨g, cap, cur, e, hbg, hgg, rest⟩
  · exact .inl hn
  · exact .inr ⟨g, cap, cur, e, hbg, (hk g hbg).trans hgg, rest⟩
theorem OutI.ownT {row : Option Nat} (h : OutI B atoms v L w) (hg : w.grownBy w' row) (hr : ∀ r, row = some r → ∃ o : Obj, w.heap[r]? = some o ∧ o.isCells = false) : OutI B atoms v L w' := by
  refine ⟨h.row.kept hg ?_, fun q hq => (h.each q hq).ownT hg hr⟩
  rcases h.row.2 with ⟨e, _⟩ | ⟨g, cap, cur, e, _, hgg, _⟩
  · exact .inl (by rw [e]; rfl)
  · refine .inr (fun e2 => ?_)
    rw [e] at e2
    simp only [Value.ownBlock] at e2
    obtain ⟨o, ho, hf⟩ := hr g e2.symm
    rw [hgg] at ho
    cases ho
    cases hf
end
def AllI (ob B N : Nat) (w : World) (atoms : List Int) (P : List Int → Prop) (pre : List (Nat × Value)) (W : World) : Prop :=
  ∃ a n c L, Blk W ob [.slice a n c] 49 ∧ OutI B atoms (.slice a n c) L W ∧ Below N w W ∧ B ≤ W.heap.size ∧ L.length ≤ pre.length ∧ (L.map (·.1)).Sublist (pre.map (·.1)) ∧ ∀ k ∈ pre.map (·.1), k ∈ L.map (·.1) ↔ P (sbL atoms k)
theorem AllI.own {ob B N Z : Nat} {w : World} {atoms : List Int} {P : List Int → Prop} (hN : N ≤ w.heap.size) (hZ : N ≤ Z) : OwnFrom Z (AllI ob B N w atoms P) := fun pre X Y row h hg hr => by
  obtain ⟨a, n, c, L, h1, h2, h3, h4, h5⟩ := h
  have hr' := fun r e => (hr r e).2
  exact ⟨a, n, c, L, h1.ownT hg hr', h2.ownT hg hr', (ownFrom_below (β := Unit) hN hZ) () X Y row h3 hg hr, Nat.le_trans h4 hg.size, h5⟩
theorem AllI.skip {ob B N : Nat} {w W W' : World} {atoms : List Int} {P : List Int → Prop} {pre : List (Nat × Value)} {q : Nat × Value} (h : AllI ob B N w atoms P pre W) (hb : Below W.heap.size W W') (hN : N ≤ w.heap.size) (hP : ¬ P (sbL atoms q.1)) : AllI ob B N w atoms P (pre ++ [q]) W' := by
  obtain ⟨a, n, c, L, h1, h2, h3, h4, h5, h6, h7⟩ := h
  have hz := h3.size
  refine ⟨a, n, c, L, h1.below hb, h2.below hb, h3.trans (hb.mono (by omega)), Nat.le_trans h4 hb.size, by simp; omega, by rw [List.map_append]; exact h6.trans (List.sublist_append_left _ _), fun k hk => ?_⟩
  rw [List.map_append, List.mem_append] at hk
  rcases hk with hk | hk
  · exact h7 k hk
  · obtain rfl : k = q.1 := by simpa using hk
    exact ⟨fun hh => (h7 _ (h6.subset hh)).1 hh, fun hh => absurd hh hP⟩
def AllOf (P : List Int → Prop) (n : Nat) (LL : List (List Int)) : Prop :=
  ∃ ks : List Nat, ks.Pairwise (· < ·) ∧ (∀ k, k ∈ ks ↔ k < 2 ^ n ∧ P (subL k n)) ∧ LL.Perm (ks.map fun (k : Nat) => subL k n)
theorem AllOf.mem {P : List Int → Prop} {n : Nat} {LL : List (List Int)} (h : AllOf P n LL) {m : List Int} : m ∈ LL ↔ ∃ k : Nat, k < 2 ^ n ∧ m = subL k n ∧ P m := by
  obtain ⟨ks, -, h2, h3⟩ := h
  rw [h3.mem_iff, List.mem_map]
  constructor
  · rintro ⟨k, hk, rfl⟩
    obtain ⟨h4, h5⟩ := (h2 k).1 hk
    exact ⟨k, h4, rfl, h5⟩
  · rintro ⟨k, hk, rfl, hP⟩
    exact ⟨k, (h2 k).2 ⟨hk, hP⟩, rfl⟩
attribute [local go_sem] memUpon
structure V2St (w : World) (p : GP) (pf : PF) (vn vs vr vm vg vt : Value) (W : World) : Prop where
  prog : ProgIs W (.agg #[.int .i64 p.n, vn, vs, vr, vm]) p
  pf : PFIs W (.agg #[vg, vt]) pf
  box : Blk W w.heap.size [.int .i64 p.n, vn, vs, vr, vm] 33
  fbox : Blk W (w.heap.size + 1) [vg, vt] 36
  below : Below w.heap.size w W
theorem V2St.on {w W W' : World} {p : GP} {pf : PF} {vn vs vr vm vg vt : Value} (h : V2St w p pf vn vs vr vm vg vt W) (hb : Below W.heap.size W W') : V2St w p pf vn vs vr vm vg vt W' := ⟨h.prog.below hb, h.pf.below hb, h.box.below hb, h.fbox.below hb, bon h.below hb⟩
theorem V2St.start {w : World} {p : GP} {pf : PF} {vn vs vr vm vg vt : Value} (h : ProgIs w (.agg #[.int .i64 p.n, vn, vs, vr, vm]) p) (h2 : PFIs w (.agg #[vg, vt]) pf) :
    V2St w p pf vn vs vr vm vg vt ((w.alloc (.cells #[.int .i64 p.n, vn, vs, vr, vm] 33)).alloc (.cells #[vg, vt] 36)) :=
  have hb := bal (bal (Below.refl w.heap.size w) _) _
  ⟨h.below hb, h2.below hb, (by repeat first | (refine Blk.newAt _ _ _ ?_; first | rfl | (simp only [World.size_alloc]; done) | (simp only [World.size_alloc]; omega)) | refine Blk.alloc ?_ _), (by repeat first | (refine Blk.newAt _ _ _ ?_; first | rfl | (simp only [World.size_alloc]; done) | (simp only [World.size_alloc]; omega)) | refine Blk.alloc ?_ _), hb⟩
theorem allR_succ36 {n : Nat} {f : Nat → Bool} : allR (n + 1) f = (allR n f && f n) := by
  simp [allR, List.range_succ]
def VsI (l : List PBC) (a : List Int) (w : World) (b i : Value) (wx : World) : Prop :=
  ∃ (k : Nat) (B : Bool), k ≤ l.length ∧ i = .int .i64 (k : Int) ∧ b = .bool B ∧ allR k (fun j => holdsC (ixC l j) a) = B ∧ Below w.heap.size w wx
end Go.Proofs.YteblddnoegbalaaGreat
namespace Go.Proofs.YteblddnoegbalaaGreat
open Go.RowKit
attribute [local go_sem] memUpon
theorem ixC_take {l : List PBC} {k i : Nat} (h : i < k) : ixC (l.take k) i = ixC l i := by
  unfold ixC
  rw [List.getD_eq_getElem?_getD, List.getD_eq_getElem?_getD, List.getElem?_take_of_lt h]
theorem PBsIs.take {w : World} {a : Option Addr} {n cap k : Nat} {l : List PBC} (h : PBsIs w (.slice a n cap) l) (hk : k ≤ l.length) : PBsIs w (.slice a k cap) (l.take k) := by
  obtain ⟨vl, vk, ⟨a', cap', e, h1, hm, h2, h3⟩, h4⟩ := h
  simp only [Value.slice.injEq] at e
  obtain ⟨rfl, rfl, rfl⟩ := e
  have hlen : (l.take k).length = k := by rw [List.length_take]; omega
  refine ⟨vl, vk, ⟨a, cap, by rw [hlen], by omega, hm, by rw [hlen]; omega, fun hp => ?_⟩, fun i hi => ?_⟩
  · rw [hlen] at hp
    obtain ⟨b, off, e, hb, hc⟩ := h3 (by omega)
    refine ⟨b, off, e, hb, fun i hi j hj => ?_⟩
    rw [hlen] at hi
    rw [hc i (by omega) j hj]
    simp only [ixC_take hi]
  · rw [hlen] at hi
    have := h4 i (by omega)
    rwa [ixC_take hi]
theorem take_smalls {L : List PBC} (h : ∀ c ∈ L, SmallC c) (k : Nat) : ∀ c ∈ L.take k, SmallC c := fun c hc => h c (List.mem_of_mem_take hc)
def RuO (W : World) (i : Value) (wx : World) : Prop := ∃ t : Nat, t ≤ 128 ∧ i = .int .i64 (t : Int) ∧ Below W.heap.size W wx
def ruΦ (_ : World) (l : List PBC) (i : Nat) (args : List Value) (v : Value) (lo hi : Nat) (w : World) : Prop :=
  match i with
  | 6 => v = .bool true
  | 11 => v = .slice (some ⟨lo, 0, none⟩) 1 1 ∧ lo < hi ∧ Blk w lo (args.flatMap fun x => x.cells.toList) 25
  | 13 => (∃ a c, v = .slice a (1 + l.length) c) ∧ PBsIs w v (falseC :: l)
  | _ => v = .bool true
theorem ruΦ_later (W : World) (l : List PBC) : ∀ i args v lo hi w w', ruΦ W l i args v lo hi w → Below w.heap.size w w' → ruΦ W l i args v lo hi w' := by
  intro i args v lo hi w w' h hb
  unfold ruΦ at *
  split at h
  · exact h
  · exact ⟨h.1, h.2.1, h.2.2.below hb⟩
  · exact ⟨h.1, h.2.below hb⟩
  · exact h
set_option maxHeartbeats 8000000 in
set_option maxRecDepth 100000 in
theorem vr_walk (v1 v2 v3 : Value) (A C : List (List Int)) (B : List Int) (wh : Int) (w : World) (hA : ListsIs w v1 A) (hC : ListsIs w v2 C) (hB : Ints w v3 B) (hw : 0 ≤ wh ∧ wh ≤ 255) :
    Calls Tryz.prog 5 #[v1, v2, v3, .int .u8 wh] w fun e w' => e = .returned (.bool true) ∧ Below w.heap.size w w' := by
  have HSM := Lib.hid (small32_any v1 v2 v3 A C B w hA hC hB)
  obtain ⟨aA, cA, rfl, -⟩ := lists_form hA
  obtain ⟨aC, cC, rfl, -⟩ := lists_form hC
  obtain ⟨aB, cB, rfl, -⟩ := hB.form
  clear hA hC hB
  go_enter Tryz.func5, Tryz.ntmps5
  go_upto_region 2 with (go_at_call 21; (with_reducible refine (HSM.out).mono ?_); rintro e w1 ⟨aD, L, cD, rfl, hD, hS, hl24, hb1⟩; have HB1 := Lib.hid hb1; have HD1 := Lib.hid hD; have HSL := Lib.hid hS; clear hb1 hD hS)
  rcases Nat.eq_zero_or_pos L.length with hz | hp
  · clear hl24
    rw [hz]
    go_wp2_with (go_at_call 12; (with_reducible refine (awake36_any _).mono ?_); rintro e w9 ⟨rfl, hb9⟩; have HB9 := Lib.hid (bon HB1.out hb9); clear hb9)
    go_ret
    exact ⟨rfl, HB9.out⟩
  obtain ⟨k, hk⟩ : ∃ k, L.length = k + 1 := ⟨L.length - 1, by omega⟩
  obtain ⟨a0, c0, e0, hcD, -, -, hcell⟩ := HD1.out.form
  simp only [Value.slice.injEq, true_and] at e0
  obtain ⟨rfl, rfl⟩ := e0
  obtain ⟨b, off, rfl, hbl, hc⟩ := hcell (by omega)
  obtain ⟨q, hq⟩ : ∃ q : Nat, wh.tmod (k + 1) = q := ⟨(wh.tmod (k + 1)).toNat, by have := Int.tmod_nonneg (k + 1 : Int) hw.1; omega⟩
  have hqk : q < k + 1 := by have := Int.tmod_lt_of_pos wh (show (0 : Int) < k + 1 by omega); omega
  obtain ⟨vl, vk, ⟨k0, k1, k2⟩, hsl⟩ := hc k (by omega)
  obtain ⟨ul, uk, ⟨x0, x1, x2⟩, hxl⟩ := hc q (by omega)
  obtain ⟨c, hce⟩ : ∃ c, ixC L k = c := ⟨_, rfl⟩
  obtain ⟨x, hxe⟩ : ∃ x, ixC L q = x := ⟨_, rfl⟩
  rw [hce] at k2 hsl
  rw [hxe] at x2 hxl
  have hcm : c ∈ L := hce ▸ ixC_mem (by omega)
  have hxm : x ∈ L := hxe ▸ ixC_mem (by omega)
  obtain ⟨a1, c1, rfl, -⟩ := hsl.lits.form
  obtain ⟨a2, c2, rfl, -⟩ := hsl.coefs.form
  obtain ⟨a3, c3, rfl, -⟩ := hxl.lits.form
  obtain ⟨a4, c4, rfl, -⟩ := hxl.coefs.form
  obtain ⟨R, hR⟩ : ∃ R, L.take k = R := ⟨_, rfl⟩
  have hRl : R.length = k := by rw [← hR, List.length_take]; omega
  have hT := HD1.out.take (k := k) (by omega)
  have hTS := take_smalls HSL.out k
  rw [hR] at hT hTS
  subst hRl
  have HRS1 := Lib.hid hT
  have HRSM := Lib.hid hTS
  clear hT hTS
  have HCS := Lib.hid (HSL.out c hcm)
  have HPC1 := Lib.hid hsl.is
  have HPX1 := Lib.hid hxl.is
  have HCO : Hid (rupB (falseC :: R) c = true) := Lib.hid (rup36_contra HRSM.out HCS.out)
  have HSF : Hid (x.bound ≤ 1 → rupB L x = true) := Lib.hid (rup36_self HSL.out hxm)
  rw [hk]
  clear hce hxe hcm hxm hR hc hsl hxl hcell
  go_upto_region 7 with fail
  have hba1 := bal (Below.refl w1.heap.size w1) (.cells #[.slice a1 c.lits.length c1, .slice a2 c.coefs.length c2, .int .i64 c.bound] 25)
  have HBC : Hid (Blk ((w1.alloc (.cells #[.slice a1 c.lits.length c1, .slice a2 c.coefs.length c2, .int .i64 c.bound] 25)).alloc (.cells #[.slice a3 x.lits.length c3, .slice a4 x.coefs.length c4, .int .i64 x.bound] 25)) w1.heap.size [.slice a1 c.lits.length c1, .slice a2 c.coefs.length c2, .int .i64 c.bound] 25) := Lib.hid (by repeat first | (refine Blk.newAt _ _ _ ?_; first | rfl | (simp only [World.size_alloc]; done) | (simp only [World.size_alloc]; omega)) | refine Blk.alloc ?_ _)
  have HBX : Hid (Blk ((w1.alloc (.cells #[.slice a1 c.lits.length c1, .slice a2 c.coefs.length c2, .int .i64 c.bound] 25)).alloc (.cells #[.slice a3 x.lits.length c3, .slice a4 x.coefs.length c4, .int .i64 x.bound] 25)) (w1.heap.size + 1) [.slice a3 x.lits.length c3, .slice a4 x.coefs.length c4, .int .i64 x.bound] 25) := Lib.hid (by repeat first | (refine Blk.newAt _ _ _ ?_; first | rfl | (simp only [World.size_alloc]; done) | (simp only [World.size_alloc]; omega)) | refine Blk.alloc ?_ _)
  have HAL := Lib.hid (bal hba1 (.cells #[.slice a3 x.lits.length c3, .slice a4 x.coefs.length c4, .int .i64 x.bound] 25))
  clear hba1 k0 k1 k2 x0 x1 x2 hbl
  generalize (w1.alloc (.cells #[.slice a1 c.lits.length c1, .slice a2 c.coefs.length c2, .int .i64 c.bound] 25)).alloc (.cells #[.slice a3 x.lits.length c3, .slice a4 x.coefs.length c4, .int .i64 x.bound] 25) = W2 at *
  have HRS := Lib.hid (HRS1.out.below HAL.out)
  have HPC := Lib.hid (HPC1.out.below HAL.out)
  have HPX := Lib.hid (HPX1.out.below HAL.out)
  have HDB : Hid (PBsIs W2 (.slice (some ⟨b, off, none⟩) (R.length + 1) cD) L) := Lib.hid (hk ▸ HD1.out.below HAL.out)
  have HB2 := Lib.hid (bon HB1.out HAL.out)
  have z1 := HBC.out.lt
  have z2 := HBX.out.lt
  have y1 : ∀ e : Ext W2, ∀ o, e.world.cell? ⟨w1.heap.size, o, none⟩ = _ := fun e o => (bcell e.below _ o z1).trans (HBC.out.cell o)
  have y2 : ∀ e : Ext W2, ∀ o, e.world.cell? ⟨w1.heap.size + 1, o, none⟩ = _ := fun e o => (bcell e.below _ o z2).trans (HBX.out.cell o)
  have hR24 : R.length ≤ 23 := by omega
  have HL24 := Lib.hid hl24
  clear hq hqk hcD HD1 HPC1 HPX1 HRS1
  clear hp hk hl24
  go_cut [63] (fun s wx => s = .bool false ∧ Below W2.heap.size W2 wx)
  case first =>
    by_cases hb1 : x.bound ≤ 1
    · have HRU := Lib.hid (HSF.out hb1)
      refine wp_region_perm' (ruΦ W2 R) (fun i => i == 6 || i == 11 || i == 13 || i == 15) (by kernel_rfl) (by kernel_rfl) (by kernel_rfl) (ruΦ_later _ _) ?_
      iterate 6 (refine walkP_calm rfl rfl rfl (fun K hK => ?_); go_big_quiet_op; refine hK _ ?_; clear hK K)
      refine walkP_mem rfl rfl (fun wa hba hFa => ?_) (fun v1 lo1 hi1 l1 g1 h1 => ?_)
      · go_simp
        refine (vrup_any _ _ L x wa (HDB.out.below hba) (HPX.out.below hba) (by have := HL24.out; omega)).mono fun e w5 ⟨h1, h2⟩ => ?_
        rw [HRU.out] at h1
        exact ⟨_, h1, h2, rfl⟩
      obtain ⟨_, rfl⟩ := h1
      simp only [Act.put, List.setIfInBounds_toArray, List.set_cons_succ, List.set_cons_zero]
      iterate 3 (refine walkP_calm rfl rfl rfl (fun K hK => ?_); go_big_quiet_op; refine hK _ ?_; clear hK K)
      iterate 1 (refine walkP_calm rfl rfl rfl (fun K hK => ?_); go_big_quiet_op; refine hK _ ?_; clear hK K)
      refine walkP_mem rfl rfl (fun wa hba hFa => ?_) (fun v2 lo2 hi2 l2 g2 h2 => ?_)
      · go_simp
        exact ⟨bal (Below.refl _ _) _, rfl, by simp, Blk.new _ _ _⟩
      obtain ⟨_, rfl, -, -⟩ := h2
      simp only [Act.put, List.setIfInBounds_toArray, List.set_cons_succ, List.set_cons_zero]
      iterate 1 (refine walkP_calm rfl rfl rfl (fun K hK => ?_); go_big_quiet_op; refine hK _ ?_; clear hK K)
      refine walkP_mem rfl rfl (fun wa hba hFa => ?_) (fun v3 lo3 hi3 l3 g3 h3 => ?_)
      · obtain ⟨-, -, f2⟩ := hFa _ (.head _) (by kernel_rfl)
        obtain ⟨ay, cy, LY, wy, hr, hby, hro, hmp⟩ := upon_appendP (w0 := W2) (L0 := [(falseC, .slice none 0 0, .slice none 0 0)]) (n0 := 1) _ hba (HRS.out) l2 f2 (fun q hq => by
          rw [List.mem_singleton.1 hq]
          exact ⟨.old (nil_ints _), .old (nil_ints _), inI_small (by decide)⟩) rfl (by simp; omega)
        refine memUpon_appendP _ _ rfl rfl rfl hr ⟨hby, ⟨ay, cy, rfl⟩, ?_⟩
        exact hro.pbs (bon hba hby) hmp (by have := congrArg List.length hmp; simp at this; omega)
      obtain ⟨_, ⟨a3, c3, rfl⟩, -⟩ := h3
      simp only [Act.put, List.setIfInBounds_toArray, List.set_cons_succ, List.set_cons_zero]
      iterate 1 (refine walkP_calm rfl rfl rfl (fun K hK => ?_); go_big_quiet_op; refine hK _ ?_; clear hK K)
      refine walkP_mem rfl rfl (fun wa hba hFa => ?_) (fun v4 lo4 hi4 l4 g4 h4 => ?_)
      · obtain ⟨-, f3⟩ := hFa _ (.head _) (by kernel_rfl)
        go_simp
        refine (vrup_any _ _ (falseC :: R) c wa f3 (HPC.out.below hba) (by simp; omega)).mono fun e w5 ⟨h1, h2⟩ => ?_
        rw [HCO.out] at h1
        exact ⟨_, h1, h2, rfl⟩
      obtain ⟨_, rfl⟩ := h4
      simp only [Act.put, List.setIfInBounds_toArray, List.set_cons_succ, List.set_cons_zero]
      iterate 2 (refine walkP_calm rfl rfl rfl (fun K hK => ?_); go_big_quiet_op; refine hK _ ?_; clear hK K)
      intro wx hbx hF hI hP
      have HBZ := Lib.hid hbx
      clear hF hI hP hbx
      go_wp2_with fail
      go_meet
      case rel => exact ⟨rfl, HBZ.out⟩
    · refine wp_region_perm' (ruΦ W2 R) (fun i => i == 11 || i == 13 || i == 15) (by kernel_rfl) (by kernel_rfl) (by kernel_rfl) (ruΦ_later _ _) ?_
      iterate 4 (refine walkP_calm rfl rfl rfl (fun K hK => ?_); go_big_quiet_op; refine hK _ ?_; clear hK K)
      iterate 4 (refine walkP_skip rfl rfl ?_; simp only [Act.put, List.setIfInBounds_toArray, List.set_cons_succ, List.set_cons_zero])
      iterate 2 (refine walkP_calm rfl rfl rfl (fun K hK => ?_); go_big_quiet_op; refine hK _ ?_; clear hK K)
      iterate 1 (refine walkP_calm rfl rfl rfl (fun K hK => ?_); go_big_quiet_op; refine hK _ ?_; clear hK K)
      refine walkP_mem rfl rfl (fun wa hba hFa => ?_) (fun v2 lo2 hi2 l2 g2 h2 => ?_)
      · go_simp
        exact ⟨bal (Below.refl _ _) _, rfl, by simp, Blk.new _ _ _⟩
      obtain ⟨_, rfl, -, -⟩ := h2
      simp only [Act.put, List.setIfInBounds_toArray, List.set_cons_succ, List.set_cons_zero]
      iterate 1 (refine walkP_calm rfl rfl rfl (fun K hK => ?_); go_big_quiet_op; refine hK _ ?_; clear hK K)
      refine walkP_mem rfl rfl (fun wa hba hFa => ?_) (fun v3 lo3 hi3 l3 g3 h3 => ?_)
      · obtain ⟨-, -, f2⟩ := hFa _ (.head _) (by kernel_rfl)
        obtain ⟨ay, cy, LY, wy, hr, hby, hro, hmp⟩ := upon_appendP (w0 := W2) (L0 := [(falseC, .slice none 0 0, .slice none 0 0)]) (n0 := 1) _ hba (HRS.out) l2 f2 (fun q hq => by
          rw [List.mem_singleton.1 hq]
          exact ⟨.old (nil_ints _), .old (nil_ints _), inI_small (by decide)⟩) rfl (by simp; omega)
        refine memUpon_appendP _ _ rfl rfl rfl hr ⟨hby, ⟨ay, cy, rfl⟩, ?_⟩
        exact hro.pbs (bon hba hby) hmp (by have := congrArg List.length hmp; simp at this; omega)
      obtain ⟨_, ⟨a3, c3, rfl⟩, -⟩ := h3
      simp only [Act.put, List.setIfInBounds_toArray, List.set_cons_succ, List.set_cons_zero]
      iterate 1 (refine walkP_calm rfl rfl rfl (fun K hK => ?_); go_big_quiet_op; refine hK _ ?_; clear hK K)
      refine walkP_mem rfl rfl (fun wa hba hFa => ?_) (fun v4 lo4 hi4 l4 g4 h4 => ?_)
      · obtain ⟨-, f3⟩ := hFa _ (.head _) (by kernel_rfl)
        go_simp
        refine (vrup_any _ _ (falseC :: R) c wa f3 (HPC.out.below hba) (by simp; omega)).mono fun e w5 ⟨h1, h2⟩ => ?_
        rw [HCO.out] at h1
        exact ⟨_, h1, h2, rfl⟩
      obtain ⟨_, rfl⟩ := h4
      simp only [Act.put, List.setIfInBounds_toArray, List.set_cons_succ, List.set_cons_zero]
      iterate 2 (refine walkP_calm rfl rfl rfl (fun K hK => ?_); go_big_quiet_op; refine hK _ ?_; clear hK K)
      intro wx hbx hF hI hP
      have HBZ := Lib.hid hbx
      clear hF hI hP hbx
      go_wp2_with fail
      go_meet
      case rel => exact ⟨rfl, HBZ.out⟩
  case rest =>
    obtain ⟨rfl, hbc⟩ := hcut
    have HBC2 := Lib.hid (HBC.out.below hbc)
    have HRS2 := Lib.hid (HRS.out.below hbc)
    have HPC2 := Lib.hid (HPC.out.below hbc)
    have HBW2 := Lib.hid (bon HB2.out hbc)
    clear hbc y1 y2 z1 z2
    have kc := HBC2.out.cell
    obtain ⟨B0, hB0⟩ : ∃ B0, rupB R c = B0 := ⟨_, rfl⟩
    have HRB := Lib.hid hB0
    clear hB0 HSM HSL HCO HSF HBX HAL HRS HPC HPX HDB HB2 HBC
    cases B0 with
    | false =>
      go_wp2_with (first
        | (go_at_call 13; (with_reducible refine (vrup_any _ _ R c _ HRS2.out HPC2.out (by omega)).mono ?_); rintro e w3 ⟨e3, hb3⟩; rw [HRB.out] at e3; subst e3; have HB3 := Lib.hid (bon HBW2.out hb3); clear hb3)
        | (go_at_call 12; (with_reducible refine (awake36_any _).mono ?_); rintro e w9 ⟨rfl, hb9⟩; have HB9 := Lib.hid (bon HB3.out hb9); clear hb9))
      go_ret
      exact ⟨rfl, HB9.out⟩
    | true =>
      have hmk : ∀ w : World, (Instr.makeSlice 51 (.int .i64 7) (.int .i64 7)).run Tryz.prog w = .ok (.slice (some ⟨w.heap.size, 0, none⟩) 7 7) (w.alloc (.cells (madeCells #[.int .i8 0] 7) 52)) := fun w => run_make_row' _ _ _ _ Tryz.underlying51 info8 rfl .i64 .i64 7 (by omega) (by omega) w
      go_upto_region 11 with (go_at_call 13; (with_reducible refine (vrup_any _ _ R c _ HRS2.out HPC2.out (by omega)).mono ?_); rintro e w3 ⟨e3, hb3⟩; rw [HRB.out] at e3; subst e3; have HB3 := Lib.hid (bon HBW2.out hb3); have HBC3 := Lib.hid (HBC2.out.below hb3); have HRS3 := Lib.hid (HRS2.out.below hb3); have HPC3 := Lib.hid (HPC2.out.below hb3); clear hb3)
      clear kc HBC2 HRS2 HPC2 HBW2
      go_wp2
      go_loopw [69] (fun i wx => RuO w3 i wx) (fun i _ => 128 - (intOf i).toNat)
      case atStart => exact ⟨0, Nat.zero_le _, rfl, Below.refl _ _⟩
      case round =>
        obtain ⟨t, ht, rfl, hb4⟩ := hrel
        have HB4 := Lib.hid hb4
        clear hb4
        by_cases hlt : t < 128
        · have hdt : decide ((t : Int) < 128) = true := by simp; omega
          go_upto_region 15 with fail
          have hst5 : Blk (wr.alloc (.cells (madeCells #[.int .i8 0] 7) 52)) wr.heap.size (fnL 7 (asF t 0)) 52 := by
            have := Blk.new wr (List.replicate 7 (Value.int .i8 0)) 52
            rw [← made_list] at this
            exact this
          have hal := bal (Below.refl wr.heap.size wr) (.cells (madeCells #[.int .i8 0] 7) 52)
          have HB5 := Lib.hid (bon HB4.out hal)
          have HST5 := Lib.hid hst5
          have HAL5 := Lib.hid hal
          have hbN : wr.heap.size < (wr.alloc (.cells (madeCells #[.int .i8 0] 7) 52)).heap.size := by simp
          clear hst5 hal hmk
          obtain ⟨nb, hnb⟩ : ∃ nb, wr.heap.size = nb := ⟨_, rfl⟩
          rw [hnb] at hbN HST5
          generalize wr.alloc (.cells (madeCells #[.int .i8 0] 7) 52) = W5 at *
          rw [hnb]
          obtain ⟨wo, rfl⟩ : ∃ wo : World, wo = wr := ⟨_, rfl⟩
          go_wp2
          go_loopw [75] (fun i wx => Su26Rel2 wo t 7 nb i wx) (fun i _ => 7 - (intOf i).toNat)
          case atStart => exact ⟨0, Nat.zero_le _, rfl, HST5.out, HAL5.out⟩
          case round =>
            obtain ⟨i, hi, rfl, hbk, hb6⟩ := hrel
            have HBK := Lib.hid hbk
            have HB6 := Lib.hid hb6
            by_cases hlt2 : i < 7
            · have kc := (hbk.cell i).trans (fnL_at hlt2)
              have kf := hbk.free i
              have hzz : asF t i i = 0 := by unfold asF; rw [if_neg (Nat.lt_irrefl i)]
              rw [hzz] at kc
              have hmin : min i 64 = i := Nat.min_eq_left (by omega)
              have HW : Hid (∀ v : Int, v = (if bitAt t i = true then 1 else -1) → Blk (wr.setCell ⟨nb, i, none⟩ (.int .i8 v)) nb (fnL 7 (asF t (i + 1))) 52 ∧ Below wo.heap.size wo (wr.setCell ⟨nb, i, none⟩ (.int .i8 v))) := Lib.hid fun v hv => by
                refine ⟨?_, hb6.setCell (p := ⟨nb, i, none⟩) (by show wo.heap.size ≤ nb; omega) _⟩
                have h1 := hbk.set i (.int .i8 v)
                rw [fnL_set] at h1
                rw [fnL_congr (G := fun j => if j = i then v else asF t i j) fun j hj => by
                  unfold asF
                  by_cases e : j = i
                  · subst e; rw [if_pos (by omega), if_pos rfl, hv]
                  · rw [if_neg e]
                    by_cases e2 : j < i
                    · rw [if_pos (by omega), if_pos e2]
                    · rw [if_neg (by omega), if_neg e2]]
                exact h1
              have hbv : Go.bits .and .i64 ((t : Int) / 2 ^ i) 1 = (if bitAt t i = true then 1 else 0) := by
                rw [and_one_i64]
                unfold bitAt
                simp only [decide_eq_true_eq]
                split <;> omega
              clear hbk hb6
              cases hb : bitAt t i with
              | true =>
                rw [hb] at hbv HW
                simp only [if_true] at hbv
                go_wp2
                first
                  | (go_roundw
                     case rel => (exact ⟨i + 1, hlt2, by go_num, (HW.out 1 (by simp)).1, (HW.out 1 (by simp)).2⟩)
                     case measure => (simp [intOf]; omega))
                  | (refine ⟨?_, ?_⟩
                     · (exact ⟨i + 1, hlt2, by go_num, (HW.out 1 (by simp)).1, (HW.out 1 (by simp)).2⟩)
                     · (simp [intOf]; omega))
              | false =>
                rw [hb] at hbv HW
                simp only [Bool.false_eq_true, if_false] at hbv
                go_wp2
                first
                  | (go_roundw
                     case rel => (exact ⟨i + 1, hlt2, by go_num, (HW.out (-1) (by simp)).1, (HW.out (-1) (by simp)).2⟩)
                     case measure => (simp [intOf]; omega))
                  | (refine ⟨?_, ?_⟩
                     · (exact ⟨i + 1, hlt2, by go_num, (HW.out (-1) (by simp)).1, (HW.out (-1) (by simp)).2⟩)
                     · (simp [intOf]; omega))
            · obtain rfl : i = 7 := by omega
              have hy : Bytes8 wr (.slice (some ⟨nb, 0, none⟩) 7 7) (asgB t 7) := by
                rw [asgB_fn] at hbk
                have := Blk.bytes8 hbk (fit8 fun x hx => by
                  obtain ⟨j, -, rfl⟩ := List.mem_map.1 hx
                  split <;> omega) (by rw [asgB_len]; omega)
                rwa [asgB_len] at this
              have HY := Lib.hid hy
              have HB7 := Lib.hid (bon HB4.out hb6)
              have HRS4 := Lib.hid (HRS3.out.below HB7.out)
              have HPC4 := Lib.hid (HPC3.out.below HB7.out)
              have HBC4 := Lib.hid (HBC3.out.below HB7.out)
              have HSO : Hid ((∀ d ∈ R, holdsC d (asgB t 7) = true) → holdsC c (asgB t 7) = true) := Lib.hid (rup36_sound HRSM.out HCS.out (asgB_len _ _) (asgB_tot _ _) HRB.out)
              clear hbk hb6 hy
              generalize asgB t 7 = aa at *
              obtain ⟨w6, rfl⟩ : ∃ w6 : World, w6 = wr := ⟨_, rfl⟩
              rw [show ((7 : Nat) : Int) = 7 from rfl]
              go_wp2
              go_loopw [16, 91] (fun b i wx => VsI R aa w6 b i wx) (fun _ i _ => R.length - (intOf i).toNat)
              case atStart => exact ⟨0, true, Nat.zero_le _, rfl, rfl, rfl, Below.refl _ _⟩
              case round =>
                obtain ⟨k, B, hk, rfl, rfl, hB, hbr⟩ := hrel
                have HBB := Lib.hid hB
                have HBR := Lib.hid hbr
                clear hB hbr
                by_cases hltk : k < R.length
                · obtain ⟨a0, c0, e0, -, -, -, hcc⟩ := HRS4.out.form
                  simp only [Value.slice.injEq, true_and] at e0
                  obtain ⟨rfl, rfl⟩ := e0
                  obtain ⟨b0, o0, e0, hbl, hc⟩ := hcc (by omega)
                  simp only [Option.some.injEq, Addr.mk.injEq, and_true] at e0
                  obtain ⟨rfl, rfl⟩ := e0
                  obtain ⟨vl, vk, ⟨k0, k1, k2⟩, hsl⟩ := hc k hltk
                  obtain ⟨d, hde⟩ : ∃ d, ixC R k = d := ⟨_, rfl⟩
                  rw [hde] at k2 hsl
                  obtain ⟨al, cl, rfl, -⟩ := hsl.lits.form
                  obtain ⟨ax, cx, rfl, -⟩ := hsl.coefs.form
                  have kk0 := (bcell HBR.out b _ hbl).trans k0
                  have kk1 := (bcell HBR.out b _ hbl).trans k1
                  have kk2 := (bcell HBR.out b _ hbl).trans k2
                  have hal := bal (Below.refl wr.heap.size wr) (.cells #[.slice al d.lits.length cl, .slice ax d.coefs.length cx, .int .i64 d.bound] 25)
                  have HPI := Lib.hid ((hsl.is.below HBR.out).below hal)
                  have HAI := Lib.hid ((HY.out.below HBR.out).below hal)
                  have HBA := Lib.hid (bon HBR.out hal)
                  have HDE := Lib.hid hde
                  clear hc hcc k0 k1 k2 hsl hde hal
                  cases B with
                  | false =>
                    go_wp2
                    first
                      | (go_roundw
                         case rel => (exact ⟨k + 1, false, by omega, by go_num, rfl, by rw [allR_succ36, HBB.out, Bool.false_and], HBA.out⟩)
                         case measure => (simp [intOf]; omega))
                      | (refine ⟨?_, ?_⟩
                         · (exact ⟨k + 1, false, by omega, by go_num, rfl, by rw [allR_succ36, HBB.out, Bool.false_and], HBA.out⟩)
                         · (simp [intOf]; omega))
                  | true =>
                    obtain ⟨hb, hhb⟩ : ∃ hb, holdsC d aa = hb := ⟨_, rfl⟩
                    have HHB := Lib.hid hhb
                    clear hhb
                    go_wp2_with (go_at_call 22; (with_reducible refine (holds_any _ _ d _ _ HPI.out HAI.out).mono ?_); rintro e w9 ⟨e9, hb9⟩; rw [HHB.out] at e9; subst e9; have HB9 := Lib.hid (bon HBA.out hb9); clear hb9)
                    first
                      | (go_roundw
                         case rel => (exact ⟨k + 1, hb, by omega, by go_num, rfl, by rw [allR_succ36, HBB.out, Bool.true_and, HDE.out, HHB.out], HB9.out⟩)
                         case measure => (simp [intOf]; omega))
                      | (refine ⟨?_, ?_⟩
                         · (exact ⟨k + 1, hb, by omega, by go_num, rfl, by rw [allR_succ36, HBB.out, Bool.true_and, HDE.out, HHB.out], HB9.out⟩)
                         · (simp [intOf]; omega))
                · obtain rfl : k = R.length := by omega
                  have HB8 := Lib.hid (bon HB7.out HBR.out)
                  cases B with
                  | false =>
                    go_wp2
                    first
                      | (go_roundw
                         case rel => (exact ⟨t + 1, hlt, by go_num, HB8.out⟩)
                         case measure => (simp [intOf]; omega))
                      | (refine ⟨?_, ?_⟩
                         · (exact ⟨t + 1, hlt, by go_num, HB8.out⟩)
                         · (simp [intOf]; omega))
                  | true =>
                    have HT : Hid (holdsC c aa = true) := Lib.hid (HSO.out fun d hd => by
                      obtain ⟨j, hj, rfl⟩ := mem_ixC hd
                      exact allR_get HBB.out j hj)
                    have kc := (HBC4.out.below HBR.out).cell
                    have HPC5 := Lib.hid (HPC4.out.below HBR.out)
                    have HY5 := Lib.hid (HY.out.below HBR.out)
                    go_wp2_with (go_at_call 22; (with_reducible refine (holds_any _ _ c _ _ HPC5.out HY5.out).mono ?_); rintro e w9 ⟨e9, hb9⟩; rw [HT.out] at e9; subst e9; have HB9 := Lib.hid (bon HB8.out hb9); clear hb9)
                    first
                      | (go_roundw
                         case rel => (exact ⟨t + 1, hlt, by go_num, HB9.out⟩)
                         case measure => (simp [intOf]; omega))
                      | (refine ⟨?_, ?_⟩
                         · (exact ⟨t + 1, hlt, by go_num, HB9.out⟩)
                         · (simp [intOf]; omega))
        · go_wp2_with (go_at_call 12; (with_reducible refine (awake36_any _).mono ?_); rintro e w9 ⟨rfl, hb9⟩; have HB9 := Lib.hid (bon HB3.out (bon HB4.out hb9)); clear hb9)
          go_ret
          exact ⟨rfl, HB9.out⟩
theorem rup36_law {W : World} {v1 v2 v3 : Value} {A C : List (List Int)} {B : List Int} (hA : ListsIs W v1 A) (hC : ListsIs W v2 C) (hB : Ints W v3 B) (x : Int) (hx : (Lit.int .u8 x).wf = true) :
    Calls Tryz.prog 5 #[v1, v2, v3, .int .u8 x] W fun e W' => e = .returned (.bool true) ∧ Below W.heap.size W W' := vr_walk v1 v2 v3 A C B x W hA hC hB (bounds_u8 hx)
end Go.Proofs.YteblddnoegbalaaGreat
namespace Go.Proofs.YteblddnoegbalaaGreat
open Go.RowKit Go.WideShapes
section
variable {H : Type} {enc : TypeId × Value → H} {w : World} {r : Reach} {b0 : Nat} {v : Value} {d : DataW H} {q : List MemPlace}
theorem arg_reads {P : Program} {t : TypeId} (h : DataW.Trod enc P w 0 (fun _ => true) true t v d q) (hw : ∀ m ∈ d.weights P t, m ≤ reachBytes) : Reads enc P w t v.cells.toList := by
  obtain ⟨fuel, hf⟩ := h
  exact ⟨fuel, _, hf, hw⟩
end
end Go.Proofs.YteblddnoegbalaaGreat
namespace Go.Proofs.YteblddnoegbalaaGreat
open Go.RowKit Go.WideShapes
section
variable {H : Type} {enc : TypeId × Value → H} {w : World} {r : Reach} {b0 : Nat} {v : Value} {d : DataW H} {q : List MemPlace}
set_option maxRecDepth 100000 in
theorem arg_Ints (hv : Value.okWide Tryz.prog w r b0 23 v) (h : DataW.Trod enc Tryz.prog w 0 (fun _ => true) true 23 v d q) (hw : ∀ m ∈ d.weights Tryz.prog 23, m ≤ reachBytes) : ∃ l, Ints w v l := by
  obtain ⟨a, n, c, rfl⟩ := okWide_slice Tryz.underlying23 hv
  have hr := arg_reads h hw
  obtain ⟨v', l, he, hp⟩ := open_Ints hr
  have : Value.slice a n c = v' := by simpa [Value.cells] using he
  subst this
  exact ⟨l, hp⟩
end
end Go.Proofs.YteblddnoegbalaaGreat
namespace Go.Proofs.YteblddnoegbalaaGreat
open Go.RowKit Go.WideShapes
section
variable {H : Type} {enc : TypeId × Value → H} {w : World} {r : Reach} {b0 : Nat} {v : Value} {d : DataW H} {q : List MemPlace}
theorem open_Intss {cs : List Value} (h : Reads enc Tryz.prog w 49 cs) : ∃ v l, cs = [v] ∧ ListsIs w v l := by
  obtain ⟨a, n, cap, rfl, h1, h2, h3, h4⟩ := open_slc (sz := 1) (byt := 24) Tryz.underlying49 (by kernel_rfl) (Nat.le_refl _) (by kernel_rfl) h
  by_cases hp : 0 < n
  · obtain ⟨b, off, rfl, hb, hel⟩ := h4 hp
    obtain ⟨l, hl, hq⟩ := list_of (nilS, ([] : List Int)) (Q := fun i (q : Value × List Int) => w.cell? ⟨b, off + i, none⟩ = some q.1 ∧ Ints w q.1 q.2) n (fun i hi => by
      obtain ⟨cs', h5, h6, h7⟩ := hel i hi
      obtain ⟨v, z, rfl, hz⟩ := open_Ints h7
      have := h6 0 (by omega)
      simp only [Nat.mul_one, Nat.add_zero, List.getElem?_cons_zero] at this
      exact ⟨(v, z), this, hz⟩)
    have hix : ∀ i, i < n → (l.map (·.2)).getD i [] = (l.getD i (nilS, [])).2 := fun i hi => by
      simp [List.getD_eq_getElem?_getD, List.getElem?_eq_getElem (show i < l.length by omega)]
    refine ⟨_, l.map (·.2), rfl, fun i => (l.getD i (nilS, [])).1, ⟨_, cap, by rw [List.length_map, hl], by simp [hl]; omega, h2, by simp [hl]; omega, fun _ => ⟨b, off, rfl, hb, fun i hi => ?_⟩⟩, fun i hi => ?_⟩
    · simp only [List.length_map, hl] at hi
      exact (hq i hi).1
    · simp only [List.length_map, hl] at hi
      rw [hix i hi]
      exact (hq i hi).2
  · obtain rfl : n = 0 := by omega
    exact ⟨_, [], rfl, fun _ => nilS, ⟨a, cap, rfl, h1, h2, by simp, fun h => absurd h (by simp)⟩, fun i hi => absurd hi (by simp)⟩
set_option maxRecDepth 100000 in
theorem arg_Intss (hv : Value.okWide Tryz.prog w r b0 49 v) (h : DataW.Trod enc Tryz.prog w 0 (fun _ => true) true 49 v d q) (hw : ∀ m ∈ d.weights Tryz.prog 49, m ≤ reachBytes) : ∃ l, ListsIs w v l := by
  obtain ⟨a, n, c, rfl⟩ := okWide_slice Tryz.underlying49 hv
  have hr := arg_reads h hw
  obtain ⟨v', l, he, hp⟩ := open_Intss hr
  have : Value.slice a n c = v' := by simpa [Value.cells] using he
  subst this
  exact ⟨l, hp⟩
end
end Go.Proofs.YteblddnoegbalaaGreat
