/- My texts Vl3, Vl4, SrF, Vr5, Vr7, merged. -/
import Derived.Test.YteblddnoegbalaaGreatM25
import Derived.Test.YteblddnoegbalaaGreatM24
import Derived.Test.YteblddnoegbalaaGreatM21
import Derived.Test.YteblddnoegbalaaGreatM20
import Derived.Test.YteblddnoegbalaaGreatM19
import Derived.Test.YteblddnoegbalaaGreatM11
import Derived.Test.YteblddnoegbalaaGreatM08
import Derived.Test.YteblddnoegbalaaGreatM07
import Derived.Test.YteblddnoegbalaaGreatM06
import Derived.Test.YteblddnoegbalaaGreatM05
import Derived.Test.YteblddnoegbalaaGreatM04
import Derived.Test.YteblddnoegbalaaGreatM03
import Derived.Test.YteblddnoegbalaaGreatM00
import Derived.Test.YteblddnoegbalaaGreatProg
import Derived.WalkKit
import Derived.Lib.Hide
import Derived.Deep.QuietTactic
import Derived.BigQuiet
import Derived.WalkSpells
import Derived.Lib.SliceRun
import Derived.MapKept
import Derived.Maps.OwnSet
import Derived.Maps.OwnOps
import Derived.Test.YteblddnoegbalaaGreatM02
import Derived.Test.YteblddnoegbalaaGreatM01
import Derived.Deep.AppendLies
import Derived.Lib.Bytealg
import Derived.Deep.DeepCutAuto
import Derived.RangeFuncNested
import Derived.RangeFuncBound
import Derived.RangeFuncCalls
import Derived.RangeFuncLeaves
import Derived.OwnWalkIn
import Derived.TacticsInMore
import Derived.LoopNIn
import Derived.LoopIn
import Derived.Stop.RegionWithIn
import Derived.Shelf.Abstract
import Derived.Sort.QuietThIn
import Derived.RangeFuncBox
import Derived.Maps.OwnIn
import Derived.Lib.SlicesCompact
import Derived.Shelf.Sort.Plain
import Derived.Shelf.Slices.CompactI
import Derived.Shelf.Slices.In.SortNone
import Derived.Shelf.Strconv.Itoa3
import Derived.Shelf.Strings.BuilderK
import Derived.Shelf.Slices.SearchI
import Derived.Shelf.Slices.Empties
import Derived.Sort.OwnSortedInts
import Derived.Lib.RowBridge
import Derived.Test.YteblddnoegbalaaGreatM10
import Derived.Test.YteblddnoegbalaaGreatM09
import Derived.Maps.RangeWalk
import Derived.Deep.OwnRows
import Derived.Test.YteblddnoegbalaaGreatM14
import Derived.Test.YteblddnoegbalaaGreatM13
import Derived.Test.YteblddnoegbalaaGreatM12
import Derived.Laws.EntriesVeiled
import Derived.Deep.AppendSrc
import Derived.Deep.RegionWith
import Derived.Test.YteblddnoegbalaaGreatM15
import Derived.Deep.LoopGhost
import Derived.Deep.DrawnRows
import Derived.Test.YteblddnoegbalaaGreatM18
import Derived.Test.YteblddnoegbalaaGreatM16
import Derived.Deep.DeepMust
import Derived.Test.YteblddnoegbalaaGreatM17
import Derived.ProofKit
import Derived.OpenShut
import Derived.ChangeArms
import Derived.SizedLaws
import Derived.Laws.Cover1
import Derived.Test.YteblddnoegbalaaGreatM23
import Derived.Test.YteblddnoegbalaaGreatM22
import Derived.Lib.AppendZeros
import Derived.Shelf.SlSortCmp.Kit1
import Derived.RangeFuncOwn

namespace Go.Proofs.YteblddnoegbalaaGreat
theorem clo1 {f : Int → Int} {l : Int} (h : CloC f ⟨[l], [1], 1⟩) : 0 < f l := by
  obtain ⟨h1, h2⟩ := h
  simp only [nnS, List.zip_cons_cons, List.zip_nil_right, sumW, List.mem_singleton, forall_eq] at h1 h2
  by_cases h0 : 0 ≤ f l
  · simp only [h0, decide_true, if_true] at h1 h2
    omega
  · simp [h0] at h1
theorem clo2 {f : Int → Int} {a b : Int} (h : CloC f ⟨[a, b], [1, 1], 1⟩) : (f a < 0 → 0 < f b) ∧ (f b < 0 → 0 < f a) := by
  obtain ⟨h1, h2⟩ := h
  simp only [nnS, List.zip_cons_cons, List.zip_nil_right, sumW, List.mem_cons, List.not_mem_nil, or_false, forall_eq_or_imp, forall_eq] at h1 h2
  obtain ⟨h2, h3⟩ := h2
  by_cases h0 : 0 ≤ f a
  · by_cases h4 : 0 ≤ f b
    · omega
    · simp only [h0, h4, decide_true, decide_false, if_true, Bool.false_eq_true, if_false] at h1 h2 h3
      omega
  · by_cases h4 : 0 ≤ f b
    · simp only [h0, h4, decide_true, decide_false, if_true, Bool.false_eq_true, if_false] at h1 h2 h3
      omega
    · simp [h0, h4] at h1
def pA36 : GP := ⟨1, [⟨#[97]⟩], [], [⟨false, [1], false, 0, [-1], []⟩], []⟩
def pB36 : GP := ⟨2, [⟨#[97]⟩, ⟨#[98]⟩], [], [⟨false, [1], false, 0, [2], []⟩, ⟨false, [2], false, 0, [1], []⟩, ⟨false, [], false, 0, [-1], []⟩], []⟩
def cl36 (l : List Int) : PBC := ⟨l, l.map fun _ => 1, 1⟩
theorem pA_comp : compL pA36 = [cl36 [-1, -2], cl36 [1, 2], cl36 [1, -2], cl36 [-1, 2]] := by kernel_rfl
theorem pB_comp : compL pB36 = [cl36 [2, -3], cl36 [-2, 3], cl36 [1, -3], cl36 [1, -4], cl36 [-1, 4], cl36 [2, -4], cl36 [-1, -5], cl36 [1, 5], cl36 [-5], cl36 [-1, 3], cl36 [-2, 4]] := by kernel_rfl
theorem c2_36 : (clauseP [2]).1 = cl36 [2] := by kernel_rfl
theorem c0_36 : (clauseP []).1 = cl36 [] := by kernel_rfl
theorem cm_36 : (clauseP [-1]).1 = cl36 [-1] := by kernel_rfl
theorem n2_36 : negP (cl36 [2]) = (cl36 [-2], 0) := by kernel_rfl
theorem n0_36 : negP (cl36 []) = (⟨[], [], 0⟩, 0) := by kernel_rfl
theorem begA (st : List ST) (h : st.length ≤ 65536) : beginP pA36 ⟨[], st⟩ = (compL pA36, 0, 0) := by
  have e : validE pA36 = 0 := by kernel_rfl
  unfold beginP
  rw [if_neg (by simp [e]), if_neg (by simp; omega), if_neg (by simp), List.append_nil]
theorem begB (st : List ST) (h : st.length ≤ 65536) : beginP pB36 ⟨[], st⟩ = (compL pB36, 0, 0) := by
  have e : validE pB36 = 0 := by kernel_rfl
  unfold beginP
  rw [if_neg (by simp [e]), if_neg (by simp; omega), if_neg (by simp), List.append_nil]
theorem rupA1 : rupB (compL pA36) (cl36 [2]) = true := by
  refine rupB_iff.2 ⟨by rw [pA_comp]; decide, by rw [n2_36], ?_⟩
  rw [n2_36, pA_comp]
  refine failB_true.2 fun ⟨f, ho, h⟩ => ?_
  have h1 := clo2 (h (cl36 [1, 2]) (by decide))
  have h2 := clo2 (h (cl36 [-1, 2]) (by decide))
  have h3 := clo1 (h (cl36 [-2]) (by decide))
  have e1 := ho 1 (by decide)
  have e2 := ho 2 (by decide)
  omega
theorem rupA2 : rupB (compL pA36 ++ [cl36 [2]]) (cl36 []) = true := by
  refine rupB_iff.2 ⟨by rw [pA_comp]; decide, by rw [n0_36], ?_⟩
  rw [n0_36, pA_comp]
  refine failB_true.2 fun ⟨f, ho, h⟩ => ?_
  have h1 := clo2 (h (cl36 [-1, -2]) (by decide))
  have h2 := clo2 (h (cl36 [1, -2]) (by decide))
  have h3 := clo1 (h (cl36 [2]) (by decide))
  have e1 := ho 1 (by decide)
  have e2 := ho 2 (by decide)
  omega
theorem rupB2 : rupB (compL pB36 ++ [cl36 [-1]]) (cl36 []) = true := by
  refine rupB_iff.2 ⟨by rw [pB_comp]; decide, by rw [n0_36], ?_⟩
  rw [n0_36, pB_comp]
  refine failB_true.2 fun ⟨f, ho, h⟩ => ?_
  have h1 := clo2 (h (cl36 [1, 5]) (by decide))
  have h2 := clo1 (h (cl36 [-5]) (by decide))
  have h3 := clo1 (h (cl36 [-1]) (by decide))
  have e1 := ho 1 (by decide)
  have e5 := ho 5 (by decide)
  omega
theorem stepR {p : GP} {db : List PBC} {l : List Int} (hf : fitsB p (clauseP l).1 = true) (h : rupB db (clauseP l).1 = true) : stepB p db (rupL l) = true := by
  unfold stepB
  have e1 : (rupL l).c = (clauseP l).1 := rfl
  rw [e1, hf, if_pos (show (rupL l).kind = 1 from rfl), h]
  rfl
theorem checkA1 : checkP pA36 ⟨[], [rupL [2], rupL []]⟩ = (2, 0) := by
  have s1 : stepB pA36 (compL pA36) (rupL [2]) = true := stepR (by kernel_rfl) (by rw [c2_36]; exact rupA1)
  have s2 : stepB pA36 (compL pA36 ++ [(rupL [2]).c]) (rupL []) = true := stepR (by kernel_rfl) (by rw [show (rupL [2]).c = cl36 [2] from c2_36, c0_36]; exact rupA2)
  have hg : goodS pA36 (compL pA36) [rupL [2], rupL []] = 2 := by
    simp only [goodS, s1, s2, if_true]
  unfold checkP
  rw [begA _ (by decide)]
  dsimp only
  rw [if_neg (by simp), hg, if_neg (by decide), if_pos]
  · rfl
  · rw [pA_comp, List.any_eq_true]
    exact ⟨(rupL []).c, by simp [rupL], by rw [show (rupL []).c = cl36 [] from c0_36]; rfl⟩
theorem checkA2 : checkP pA36 ⟨[], [rupL [2]]⟩ = (1, 362) := by
  have s1 : stepB pA36 (compL pA36) (rupL [2]) = true := stepR (by kernel_rfl) (by rw [c2_36]; exact rupA1)
  have hg : goodS pA36 (compL pA36) [rupL [2]] = 1 := by
    simp only [goodS, s1, if_true]
  unfold checkP
  rw [begA _ (by decide)]
  dsimp only
  rw [if_neg (by simp), hg, if_neg (by decide), if_neg]
  · rfl
  · rw [pA_comp, List.map_cons, List.map_nil, show (rupL [2]).c = cl36 [2] from c2_36]
    decide
theorem checkB : checkP pB36 ⟨[], [⟨3, (clauseP [-1]).1, [1, 2], []⟩, rupL []]⟩ = (2, 0) := by
  have s1 : stepB pB36 (compL pB36) ⟨3, (clauseP [-1]).1, [1, 2], []⟩ = true := by
    have e1 : fitsB pB36 (clauseP [-1]).1 = true := by kernel_rfl
    have e2 : validC pB36 [1, 2] (clauseP [-1]).1 = true := by kernel_rfl
    unfold stepB
    dsimp only
    rw [e1, e2]
    rfl
  have s2 : stepB pB36 (compL pB36 ++ [(clauseP [-1]).1]) (rupL []) = true := stepR (by kernel_rfl) (by rw [cm_36, c0_36]; exact rupB2)
  have hg : goodS pB36 (compL pB36) [⟨3, (clauseP [-1]).1, [1, 2], []⟩, rupL []] = 2 := by
    simp only [goodS, s1, s2, if_true]
  unfold checkP
  rw [begB _ (by decide)]
  dsimp only
  rw [if_neg (by simp), hg, if_neg (by decide), if_pos]
  · rfl
  · rw [pB_comp, List.any_eq_true]
    exact ⟨(rupL []).c, by simp [rupL], by rw [show (rupL []).c = cl36 [] from c0_36]; rfl⟩
theorem compA_len : (compL pA36).length ≤ 600000 := by rw [pA_comp]; decide
theorem compB_len : (compL pB36).length ≤ 600000 := by rw [pB_comp]; decide
end Go.Proofs.YteblddnoegbalaaGreat
namespace Go.Proofs.YteblddnoegbalaaGreat
open Go.RowKit
attribute [local go_sem] memUpon
abbrev SQ := ST × Value × Value × Value × Value
def cells6S (q : SQ) : List Value := [.int .u8 q.1.kind, q.2.1, q.2.2.1, .int .i64 q.1.c.bound, q.2.2.2.1, q.2.2.2.2]
theorem flat6S : ∀ (L : List SQ) (i j : Nat), i < L.length → j < 6 → (L.flatMap cells6S)[i * 6 + j]? = (cells6S (L.getD i default))[j]?
  | [], i, j, h, _ => absurd h (by simp)
  | q :: L, 0, j, _, hj => by
    rw [List.flatMap_cons, List.getElem?_append_left (by simp [cells6S]; omega)]
    simp
  | q :: L, i + 1, j, h, hj => by
    rw [List.flatMap_cons, List.getElem?_append_right (by simp [cells6S]; omega)]
    have := flat6S L i j (by simpa using h) hj
    rw [show (i + 1) * 6 + j - (cells6S q).length = i * 6 + j by simp [cells6S]; omega, this]
    simp
theorem cells6S_at (q : SQ) {j : Nat} (hj : j < 6) : (cells6S q)[j]? = some (stCell q.1 q.2.1 q.2.2.1 q.2.2.2.1 q.2.2.2.2 j) := by
  rcases (show j = 0 ∨ j = 1 ∨ j = 2 ∨ j = 3 ∨ j = 4 ∨ j = 5 by omega) with rfl | rfl | rfl | rfl | rfl | rfl <;> rfl
theorem sts_cells {w : World} {b off cap : Nat} {L : List SQ} (hb : b < w.heap.size) (hc : ∀ j, j < L.length * 6 → w.cell? ⟨b, off + j, none⟩ = (L.flatMap cells6S)[j]?) (h : ∀ q ∈ L, STSl w q.1 q.2.1 q.2.2.1 q.2.2.2.1 q.2.2.2.2) (hcap : L.length ≤ cap) (hm : cap ≤ maxLen) (hl : L.length ≤ 1000000) :
    STsIs w (.slice (some ⟨b, off, none⟩) L.length cap) (L.map (·.1)) := by
  have hq : ∀ i, i < L.length → L.getD i default ∈ L ∧ (L.getD i default).1 = ixS36 (L.map (·.1)) i := fun i hi => by
    have e : L.getD i default = L[i] := by simp [List.getD_eq_getElem?_getD, List.getElem?_eq_getElem hi]
    rw [e]
    exact ⟨List.getElem_mem hi, by simp [ixS36, List.getD_eq_getElem?_getD, List.getElem?_eq_getElem hi]⟩
  refine ⟨fun i => (L.getD i default).2.1, fun i => (L.getD i default).2.2.1, fun i => (L.getD i default).2.2.2.1, fun i => (L.getD i default).2.2.2.2, ⟨_, cap, by rw [List.length_map], by rw [List.length_map]; exact hcap, hm, by rw [List.length_map]; omega, fun _ => ⟨b, off, rfl, hb, fun i hi j hj => ?_⟩⟩, fun i hi => ?_⟩
  · rw [List.length_map] at hi
    rw [Nat.add_assoc, hc _ (by omega), flat6S L i j hi hj, cells6S_at _ hj]
    dsimp only
    rw [(hq i hi).2]
  · rw [List.length_map] at hi
    have := h _ (hq i hi).1
    rwa [(hq i hi).2] at this
theorem sts_blk {w : World} {lo : Nat} {L : List SQ} {n : Nat} {M : List ST} (hb : Blk w lo (L.flatMap cells6S) 41) (h : ∀ q ∈ L, STSl w q.1 q.2.1 q.2.2.1 q.2.2.2.1 q.2.2.2.2) (hn : n = L.length) (hM : L.map (·.1) = M) (hl : L.length ≤ 1000000) : STsIs w (.slice (some ⟨lo, 0, none⟩) n n) M := by
  subst hn hM
  exact sts_cells hb.lt (fun j _ => by rw [hb.cell, Nat.zero_add]) h (Nat.le_refl _) (by unfold maxLen; omega) hl
theorem RupOut.st {B : Nat} {l : List Int} {c : PBC} {w : World} {a1 a2 : Option Addr} {c1 c2 : Nat} (hc : (clauseP l).1 = c) (h : RupOut B c (.agg #[.int .u8 1, .slice a1 c.lits.length c1, .slice a2 c.coefs.length c2, .int .i64 c.bound, .slice none 0 0, .slice none 0 0]) w) :
    STSl w (rupL l) (.slice a1 c.lits.length c1) (.slice a2 c.coefs.length c2) (.slice none 0 0) (.slice none 0 0) := by
  obtain ⟨x1, x2, x3, x4, e, h1, h2, h3, h4, h5⟩ := h
  simp only [Value.agg.injEq, Array.mk.injEq, List.cons.injEq, Value.slice.injEq, and_true, true_and] at e
  obtain ⟨⟨rfl, rfl⟩, rfl, rfl⟩ := e
  subst hc
  exact ⟨by unfold rupL; dsimp only; omega, ⟨h1.ints (by omega), h2.ints (by omega), h3⟩, nil_ints _, nil_ops _⟩
inductive AK where
  | ints (l : List Int)
  | rup (c : PBC)
  | cls (c : PBC)
  | sts (n : Nat)
  | res (v : Value)
def AKP (k : AK) (args : List Value) (v : Value) (lo hi : Nat) (w : World) : Prop :=
  match k with
  | .ints l => v = .slice (some ⟨lo, 0, none⟩) l.length l.length ∧ lo < hi ∧ Blk w lo (l.map (Value.int .i64)) 3
  | .rup c => RupOut 0 c v w
  | .cls c => PBQ 0 w v c
  | .sts n => v = .slice (some ⟨lo, 0, none⟩) n n ∧ lo < hi ∧ Blk w lo (args.flatMap fun x => x.cells.toList) 41
  | .res r => v = r
def akΦ (K : Nat → AK) (i : Nat) (args : List Value) (v : Value) (lo hi : Nat) (w : World) : Prop := AKP (K i) args v lo hi w
theorem akΦ_later (K : Nat → AK) : ∀ i args v lo hi w w', akΦ K i args v lo hi w → Below w.heap.size w w' → akΦ K i args v lo hi w' := fun i _ _ _ _ _ _ h hb => by
  unfold akΦ AKP at *
  cases hk : K i with
  | ints l => rw [hk] at h; exact ⟨h.1, h.2.1, h.2.2.below hb⟩
  | rup c => rw [hk] at h; exact RupOut.below h hb
  | cls c =>
    rw [hk] at h
    obtain ⟨vl, vk, e, h1, h2, h3⟩ := h
    exact ⟨vl, vk, e, h1.below hb, h2.below hb, h3⟩
  | sts n => rw [hk] at h; exact ⟨h.1, h.2.1, h.2.2.below hb⟩
  | res r => rw [hk] at h; exact h
theorem rup_sc {v : Value} {l : List Int} {c : PBC} {w : World} (hc : (clauseP l).1 = c) (h : Ints w v l) : Calls Tryz.prog 20 #[v] w fun e w' => ∃ v, e = .returned v ∧ Below w.heap.size w w' ∧ RupOut 0 c v w' :=
  (rup36_any v l w h).mono fun e w' ⟨v, h1, h2, h3⟩ => ⟨v, h1, h2, by
    rw [hc] at h3
    obtain ⟨x1, x2, x3, x4, e, g1, g2, g3⟩ := h3
    exact ⟨x1, x2, x3, x4, e, g1.mono (Nat.zero_le _), g2.mono (Nat.zero_le _), g3⟩⟩
theorem checkB' : checkP pB36 ⟨[], [⟨3, cl36 [-1], [1, 2], []⟩, rupL []]⟩ = (2, 0) := by
  have := checkB
  rwa [cm_36] at this
set_option maxHeartbeats 8000000 in
set_option maxRecDepth 100000 in
theorem awake36_any (w : World) : Calls Tryz.prog 12 #[] w fun e w' => e = .returned (.bool true) ∧ Below w.heap.size w w' := by
  go_enter Tryz.func12, Tryz.ntmps12
  go_upto_region 2 with fail
  generalize hW : World.alloc _ (.cells #[.int .i64 1, _, .slice none 0 0, _, .slice none 0 0] 33) = W1
  have b1 : Blk W1 (w.heap.size) ([⟨#[97]⟩].map Value.string) 9 := by rw [← hW]; (repeat first | (refine Blk.newAt _ _ _ ?_; first | rfl | (simp only [World.size_alloc]; done) | (simp only [World.size_alloc]; omega)) | refine Blk.alloc ?_ _)
  have b2 : Blk W1 (w.heap.size + 1) [.int .i64 1] 3 := by rw [← hW]; (repeat first | (refine Blk.newAt _ _ _ ?_; first | rfl | (simp only [World.size_alloc]; done) | (simp only [World.size_alloc]; omega)) | refine Blk.alloc ?_ _)
  have b3 : Blk W1 (w.heap.size + 1 + 1) [.int .i64 (-1)] 3 := by rw [← hW]; (repeat first | (refine Blk.newAt _ _ _ ?_; first | rfl | (simp only [World.size_alloc]; done) | (simp only [World.size_alloc]; omega)) | refine Blk.alloc ?_ _)
  have b4 : Blk W1 (w.heap.size + 1 + 1 + 1) ([((⟨false, [1], false, 0, [-1], []⟩ : GR), Value.slice (some ⟨w.heap.size + 1, 0, none⟩) 1 1, Value.slice (some ⟨w.heap.size + 1 + 1, 0, none⟩) 1 1, Value.slice none 0 0)].flatMap cells6) 66 := by rw [← hW]; (repeat first | (refine Blk.newAt _ _ _ ?_; first | rfl | (simp only [World.size_alloc]; done) | (simp only [World.size_alloc]; omega)) | refine Blk.alloc ?_ _)
  have b5 : Blk W1 (w.heap.size + 1 + 1 + 1 + 1) [.int .i64 1, .slice (some ⟨w.heap.size, 0, none⟩) 1 1, .slice none 0 0, .slice (some ⟨w.heap.size + 1 + 1 + 1, 0, none⟩) 1 1, .slice none 0 0] 33 := by rw [← hW]; (repeat first | (refine Blk.newAt _ _ _ ?_; first | rfl | (simp only [World.size_alloc]; done) | (simp only [World.size_alloc]; omega)) | refine Blk.alloc ?_ _)
  have hb1 : Below w.heap.size w W1 := by rw [← hW]; (repeat first | exact Below.refl _ _ | (refine Below.setCell ?_ (by first | omega | (simp; done) | (simp; omega)) _) | (refine bal ?_ _))
  clear hW
  have HP1 : Hid (BoxP (w.heap.size + 1 + 1 + 1 + 1) 1 (.slice (some ⟨w.heap.size, 0, none⟩) 1 1) (.slice (some ⟨w.heap.size + 1 + 1 + 1, 0, none⟩) 1 1) pA36 W1) := Lib.hid ⟨⟨_, _, _, _, rfl, inI_small (by decide), b1.strs (by simp; decide) (by simp), nil_ints _, b4.rules (fun q hq => by
    obtain rfl : q = _ := by simpa using hq
    exact ⟨b2.ints1 (inI_small (by decide)), b3.ints1 (inI_small (by decide)), nil_ints _, (by unfold InI; decide : InI 0)⟩) (by simp), nil_mins _⟩, b5⟩
  have HB1 := Lib.hid hb1
  clear b1 b2 b3 b4 b5 hb1
  have zp := HP1.out.box.lt
  have ex : ∀ e : Ext W1, ∀ o, e.world.cell? ⟨w.heap.size + 1 + 1 + 1 + 1, o, none⟩ = _ := fun e o => (bcell e.below _ o zp).trans (HP1.out.box.cell o)
  refine wp_region_perm' (akΦ fun | 1 => .ints [2] | 2 => .rup (cl36 [2]) | 3 => .rup (cl36 []) | 4 => .sts 2 | _ => .res (.tuple #[.int .i64 2, .int .i64 0])) (fun i => i == 1 || i == 2 || i == 3 || i == 4 || i == 6) (by kernel_rfl) (by kernel_rfl) (by kernel_rfl) (akΦ_later _) ?_
  iterate 1 (refine walkP_calm rfl rfl rfl (fun K hK => ?_); go_big_quiet_op; refine hK _ ?_; clear hK K)
  refine walkP_mem rfl rfl (fun wa hba hFa => ?_) (fun v1 lo1 hi1 l1 g1 h1 => ?_)
  · go_simp
    exact ⟨bal (Below.refl _ _) _, rfl, by simp, Blk.new _ _ _⟩
  obtain ⟨_, rfl, -, -⟩ := h1
  simp only [Act.put, List.setIfInBounds_toArray, List.set_cons_succ, List.set_cons_zero]
  refine walkP_mem rfl rfl (fun wa hba hFa => ?_) (fun v2 lo2 hi2 l2 g2 h2 => ?_)
  · obtain ⟨-, -, hf⟩ := hFa _ (.head _) (by kernel_rfl)
    have hii := Blk.ints1 hf (inI_small (by decide))
    clear hf
    go_simp
    exact rup_sc c2_36 hii
  obtain ⟨x2, y2, z2, t2, rfl⟩ : ∃ a1 c1 a2 c2, v2 = .agg #[.int .u8 1, .slice a1 1 c1, .slice a2 1 c2, .int .i64 1, .slice none 0 0, .slice none 0 0] := by
    obtain ⟨_, a1, c1, a2, c2, e, -⟩ := h2
    exact ⟨a1, c1, a2, c2, e⟩
  simp only [Act.put, List.setIfInBounds_toArray, List.set_cons_succ, List.set_cons_zero]
  refine walkP_mem rfl rfl (fun wa hba hFa => ?_) (fun v3 lo3 hi3 l3 g3 h3 => ?_)
  · go_simp
    exact rup_sc c0_36 (nil_ints _)
  obtain ⟨x3, y3, z3, t3, rfl⟩ : ∃ a1 c1 a2 c2, v3 = .agg #[.int .u8 1, .slice a1 0 c1, .slice a2 0 c2, .int .i64 1, .slice none 0 0, .slice none 0 0] := by
    obtain ⟨_, a1, c1, a2, c2, e, -⟩ := h3
    exact ⟨a1, c1, a2, c2, e⟩
  simp only [Act.put, List.setIfInBounds_toArray, List.set_cons_succ, List.set_cons_zero]
  refine walkP_mem rfl rfl (fun wa hba hFa => ?_) (fun v4 lo4 hi4 l4 g4 h4 => ?_)
  · go_simp
    exact ⟨bal (Below.refl _ _) _, rfl, by simp, Blk.new _ _ _⟩
  obtain ⟨_, rfl, -, -⟩ := h4
  simp only [Act.put, List.setIfInBounds_toArray, List.set_cons_succ, List.set_cons_zero]
  iterate 1 (refine walkP_calm rfl rfl rfl (fun K hK => ?_); go_big_quiet_op; refine hK _ ?_; clear hK K)
  refine walkP_mem rfl rfl (fun wa hba hFa => ?_) (fun v6 lo6 hi6 l6 g6 h6 => ?_)
  · obtain ⟨-, -, f4⟩ := hFa _ (.head _) (by kernel_rfl)
    have f3 : RupOut 0 (cl36 []) _ wa := hFa _ (.tail _ (.head _)) (by kernel_rfl)
    have f2 : RupOut 0 (cl36 [2]) _ wa := hFa _ (.tail _ (.tail _ (.head _))) (by kernel_rfl)
    have hsts : STsIs wa (.slice (some ⟨lo4, 0, none⟩) 2 2) [rupL [2], rupL []] := sts_blk (L := [(rupL [2], .slice x2 1 y2, .slice z2 1 t2, .slice none 0 0, .slice none 0 0), (rupL [], .slice x3 0 y3, .slice z3 0 t3, .slice none 0 0, .slice none 0 0)]) f4 (fun q hq => by
      simp only [List.mem_cons, List.not_mem_nil, or_false] at hq
      rcases hq with rfl | rfl
      · exact RupOut.st c2_36 f2
      · exact RupOut.st c0_36 f3) rfl rfl (by simp)
    clear f4 f3 f2
    go_simp
    refine (check36_any _ _ pA36 ⟨[], [rupL [2], rupL []]⟩ wa (HP1.out.prog.below hba) ⟨_, _, rfl, nil_pbs _, hsts⟩ compA_len).mono fun e w5 ⟨h1, h2⟩ => ?_
    rw [checkA1] at h1
    exact ⟨_, h1, h2, rfl⟩
  obtain ⟨_, rfl⟩ := h6
  simp only [Act.put, List.setIfInBounds_toArray, List.set_cons_succ, List.set_cons_zero]
  iterate 5 (refine walkP_calm rfl rfl rfl (fun K hK => ?_); go_big_quiet_op; refine hK _ ?_; clear hK K)
  intro wx hbx hF hI hP
  have HPX := Lib.hid (HP1.out.on hbx)
  have HBX := Lib.hid (bon HB1.out hbx)
  clear hF hI hP hbx ex h2 h3 HP1 zp
  go_upto_region 3 with fail
  have zp := HPX.out.box.lt
  have ex : ∀ e : Ext wx, ∀ o, e.world.cell? ⟨w.heap.size + 1 + 1 + 1 + 1, o, none⟩ = _ := fun e o => (bcell e.below _ o zp).trans (HPX.out.box.cell o)
  refine wp_region_perm' (akΦ fun | 1 => .ints [2] | 2 => .rup (cl36 [2]) | 3 => .sts 1 | _ => .res (.tuple #[.int .i64 1, .int .i64 362])) (fun i => i == 1 || i == 2 || i == 3 || i == 5) (by kernel_rfl) (by kernel_rfl) (by kernel_rfl) (akΦ_later _) ?_
  iterate 1 (refine walkP_calm rfl rfl rfl (fun K hK => ?_); go_big_quiet_op; refine hK _ ?_; clear hK K)
  refine walkP_mem rfl rfl (fun wa hba hFa => ?_) (fun v1 lo1 hi1 l1 g1 h1 => ?_)
  · go_simp
    exact ⟨bal (Below.refl _ _) _, rfl, by simp, Blk.new _ _ _⟩
  obtain ⟨_, rfl, -, -⟩ := h1
  simp only [Act.put, List.setIfInBounds_toArray, List.set_cons_succ, List.set_cons_zero]
  refine walkP_mem rfl rfl (fun wa hba hFa => ?_) (fun v2 lo2 hi2 l2 g2 h2 => ?_)
  · obtain ⟨-, -, hf⟩ := hFa _ (.head _) (by kernel_rfl)
    have hii := Blk.ints1 hf (inI_small (by decide))
    clear hf
    go_simp
    exact rup_sc c2_36 hii
  obtain ⟨x2, y2, z2, t2, rfl⟩ : ∃ a1 c1 a2 c2, v2 = .agg #[.int .u8 1, .slice a1 1 c1, .slice a2 1 c2, .int .i64 1, .slice none 0 0, .slice none 0 0] := by
    obtain ⟨_, a1, c1, a2, c2, e, -⟩ := h2
    exact ⟨a1, c1, a2, c2, e⟩
  simp only [Act.put, List.setIfInBounds_toArray, List.set_cons_succ, List.set_cons_zero]
  refine walkP_mem rfl rfl (fun wa hba hFa => ?_) (fun v4 lo4 hi4 l4 g4 h4 => ?_)
  · go_simp
    exact ⟨bal (Below.refl _ _) _, rfl, by simp, Blk.new _ _ _⟩
  obtain ⟨_, rfl, -, -⟩ := h4
  simp only [Act.put, List.setIfInBounds_toArray, List.set_cons_succ, List.set_cons_zero]
  iterate 1 (refine walkP_calm rfl rfl rfl (fun K hK => ?_); go_big_quiet_op; refine hK _ ?_; clear hK K)
  refine walkP_mem rfl rfl (fun wa hba hFa => ?_) (fun v6 lo6 hi6 l6 g6 h6 => ?_)
  · obtain ⟨-, -, f4⟩ := hFa _ (.head _) (by kernel_rfl)
    have f2 : RupOut 0 (cl36 [2]) _ wa := hFa _ (.tail _ (.head _)) (by kernel_rfl)
    have hsts : STsIs wa (.slice (some ⟨lo4, 0, none⟩) 1 1) [rupL [2]] := sts_blk (L := [(rupL [2], .slice x2 1 y2, .slice z2 1 t2, .slice none 0 0, .slice none 0 0)]) f4 (fun q hq => by
      simp only [List.mem_cons, List.not_mem_nil, or_false] at hq
      subst hq
      exact RupOut.st c2_36 f2) rfl rfl (by simp)
    clear f4 f2
    go_simp
    refine (check36_any _ _ pA36 ⟨[], [rupL [2]]⟩ wa (HPX.out.prog.below hba) ⟨_, _, rfl, nil_pbs _, hsts⟩ compA_len).mono fun e w5 ⟨h1, h2⟩ => ?_
    rw [checkA2] at h1
    exact ⟨_, h1, h2, rfl⟩
  obtain ⟨_, rfl⟩ := h6
  simp only [Act.put, List.setIfInBounds_toArray, List.set_cons_succ, List.set_cons_zero]
  iterate 5 (refine walkP_calm rfl rfl rfl (fun K hK => ?_); go_big_quiet_op; refine hK _ ?_; clear hK K)
  intro wy hby hF hI hP
  have HBY := Lib.hid (bon HBX.out hby)
  clear hF hI hP hby ex h2 HPX zp
  go_upto_region 5 with fail
  generalize hW : World.alloc _ (.cells #[.int .i64 2, _, .slice none 0 0, _, .slice none 0 0] 33) = W3
  have b0 : Blk W3 (wy.heap.size) ([⟨#[97]⟩, ⟨#[98]⟩].map Value.string) 9 := by rw [← hW]; (repeat first | (refine Blk.newAt _ _ _ ?_; first | rfl | (simp only [World.size_alloc]; done) | (simp only [World.size_alloc]; omega)) | refine Blk.alloc ?_ _)
  have b1 : Blk W3 (wy.heap.size + 1) [.int .i64 1] 3 := by rw [← hW]; (repeat first | (refine Blk.newAt _ _ _ ?_; first | rfl | (simp only [World.size_alloc]; done) | (simp only [World.size_alloc]; omega)) | refine Blk.alloc ?_ _)
  have b2 : Blk W3 (wy.heap.size + 1 + 1) [.int .i64 2] 3 := by rw [← hW]; (repeat first | (refine Blk.newAt _ _ _ ?_; first | rfl | (simp only [World.size_alloc]; done) | (simp only [World.size_alloc]; omega)) | refine Blk.alloc ?_ _)
  have b3 : Blk W3 (wy.heap.size + 1 + 1 + 1) [.int .i64 2] 3 := by rw [← hW]; (repeat first | (refine Blk.newAt _ _ _ ?_; first | rfl | (simp only [World.size_alloc]; done) | (simp only [World.size_alloc]; omega)) | refine Blk.alloc ?_ _)
  have b4 : Blk W3 (wy.heap.size + 1 + 1 + 1 + 1) [.int .i64 1] 3 := by rw [← hW]; (repeat first | (refine Blk.newAt _ _ _ ?_; first | rfl | (simp only [World.size_alloc]; done) | (simp only [World.size_alloc]; omega)) | refine Blk.alloc ?_ _)
  have b5 : Blk W3 (wy.heap.size + 1 + 1 + 1 + 1 + 1) [.int .i64 (-1)] 3 := by rw [← hW]; (repeat first | (refine Blk.newAt _ _ _ ?_; first | rfl | (simp only [World.size_alloc]; done) | (simp only [World.size_alloc]; omega)) | refine Blk.alloc ?_ _)
  have b6 : Blk W3 (wy.heap.size + 1 + 1 + 1 + 1 + 1 + 1) ([((⟨false, [1], false, 0, [2], []⟩ : GR), Value.slice (some ⟨wy.heap.size + 1, 0, none⟩) 1 1, Value.slice (some ⟨wy.heap.size + 1 + 1, 0, none⟩) 1 1, Value.slice none 0 0), (⟨false, [2], false, 0, [1], []⟩, Value.slice (some ⟨wy.heap.size + 1 + 1 + 1, 0, none⟩) 1 1, Value.slice (some ⟨wy.heap.size + 1 + 1 + 1 + 1, 0, none⟩) 1 1, Value.slice none 0 0), (⟨false, [], false, 0, [-1], []⟩, Value.slice none 0 0, Value.slice (some ⟨wy.heap.size + 1 + 1 + 1 + 1 + 1, 0, none⟩) 1 1, Value.slice none 0 0)].flatMap cells6) 66 := by rw [← hW]; (repeat first | (refine Blk.newAt _ _ _ ?_; first | rfl | (simp only [World.size_alloc]; done) | (simp only [World.size_alloc]; omega)) | refine Blk.alloc ?_ _)
  have b7 : Blk W3 (wy.heap.size + 1 + 1 + 1 + 1 + 1 + 1 + 1) [.int .i64 2, .slice (some ⟨wy.heap.size, 0, none⟩) 2 2, .slice none 0 0, .slice (some ⟨wy.heap.size + 1 + 1 + 1 + 1 + 1 + 1, 0, none⟩) 3 3, .slice none 0 0] 33 := by rw [← hW]; (repeat first | (refine Blk.newAt _ _ _ ?_; first | rfl | (simp only [World.size_alloc]; done) | (simp only [World.size_alloc]; omega)) | refine Blk.alloc ?_ _)
  have hb3 : Below wy.heap.size wy W3 := by rw [← hW]; (repeat first | exact Below.refl _ _ | (refine Below.setCell ?_ (by first | omega | (simp; done) | (simp; omega)) _) | (refine bal ?_ _))
  clear hW
  have HP1 : Hid (BoxP (wy.heap.size + 1 + 1 + 1 + 1 + 1 + 1 + 1) 2 (Value.slice (some ⟨wy.heap.size, 0, none⟩) 2 2) (Value.slice (some ⟨wy.heap.size + 1 + 1 + 1 + 1 + 1 + 1, 0, none⟩) 3 3) pB36 W3) := Lib.hid ⟨⟨_, _, _, _, rfl, inI_small (by decide), b0.strs (by simp; decide) (by simp), nil_ints _, b6.rules (fun q hq => by
    simp only [List.mem_cons, List.not_mem_nil, or_false] at hq
    rcases hq with rfl | rfl | rfl
    · exact ⟨b1.ints1 (inI_small (by decide)), b2.ints1 (inI_small (by decide)), nil_ints _, (by unfold InI; decide : InI 0)⟩
    · exact ⟨b3.ints1 (inI_small (by decide)), b4.ints1 (inI_small (by decide)), nil_ints _, (by unfold InI; decide : InI 0)⟩
    · exact ⟨nil_ints _, b5.ints1 (inI_small (by decide)), nil_ints _, (by unfold InI; decide : InI 0)⟩) (by simp), nil_mins _⟩, b7⟩
  have HB3 := Lib.hid (bon HBY.out hb3)
  clear b0 b1 b2 b3 b4 b5 b6 b7 hb3
  have zp := HP1.out.box.lt
  have ex : ∀ e : Ext W3, ∀ o, e.world.cell? ⟨wy.heap.size + 1 + 1 + 1 + 1 + 1 + 1 + 1, o, none⟩ = _ := fun e o => (bcell e.below _ o zp).trans (HP1.out.box.cell o)
  refine wp_region_perm' (akΦ fun | 1 => .ints [-1] | 2 => .cls (cl36 [-1]) | 3 => .ints [1, 2] | 5 => .rup (cl36 []) | 6 => .sts 2 | _ => .res (.tuple #[.int .i64 2, .int .i64 0])) (fun i => i == 1 || i == 2 || i == 3 || i == 5 || i == 6 || i == 8) (by kernel_rfl) (by kernel_rfl) (by kernel_rfl) (akΦ_later _) ?_
  iterate 1 (refine walkP_calm rfl rfl rfl (fun K hK => ?_); go_big_quiet_op; refine hK _ ?_; clear hK K)
  refine walkP_mem rfl rfl (fun wa hba hFa => ?_) (fun v1 lo1 hi1 l1 g1 h1 => ?_)
  · go_simp
    exact ⟨bal (Below.refl _ _) _, rfl, by simp, Blk.new _ _ _⟩
  obtain ⟨_, rfl, -, -⟩ := h1
  simp only [Act.put, List.setIfInBounds_toArray, List.set_cons_succ, List.set_cons_zero]
  refine walkP_mem rfl rfl (fun wa hba hFa => ?_) (fun v2 lo2 hi2 l2 g2 h2 => ?_)
  · obtain ⟨-, -, hf⟩ := hFa _ (.head _) (by kernel_rfl)
    have hii := Blk.ints1 hf (inI_small (by decide))
    clear hf
    go_simp
    refine (claw36_any _ [-1] wa hii).mono fun e w5 ⟨v, h1, h2, h3⟩ => ⟨v, h1, h3, ?_⟩
    rw [cm_36] at h2
    obtain ⟨vl, vk, e, g1, g2, g3⟩ := h2
    exact ⟨vl, vk, e, g1.mono (Nat.zero_le _), g2.mono (Nat.zero_le _), g3⟩
  obtain ⟨x2, y2, z2, t2, rfl⟩ : ∃ a1 c1 a2 c2, v2 = .agg #[.slice a1 1 c1, .slice a2 1 c2, .int .i64 1] := by
    obtain ⟨_, vl, vk, e, g1, g2, -⟩ := h2
    obtain ⟨a1, c1, rfl⟩ := g1.slen
    obtain ⟨a2, c2, rfl⟩ := g2.slen
    exact ⟨a1, c1, a2, c2, e⟩
  simp only [Act.put, List.setIfInBounds_toArray, List.set_cons_succ, List.set_cons_zero]
  refine walkP_mem rfl rfl (fun wa hba hFa => ?_) (fun v3 lo3 hi3 l3 g3 h3 => ?_)
  · go_simp
    exact ⟨bal (Below.refl _ _) _, rfl, by simp, Blk.new _ _ _⟩
  obtain ⟨_, rfl, -, -⟩ := h3
  simp only [Act.put, List.setIfInBounds_toArray, List.set_cons_succ, List.set_cons_zero]
  iterate 1 (refine walkP_calm rfl rfl rfl (fun K hK => ?_); go_big_quiet_op; refine hK _ ?_; clear hK K)
  refine walkP_mem rfl rfl (fun wa hba hFa => ?_) (fun v5 lo5 hi5 l5 g5 h5 => ?_)
  · go_simp
    exact rup_sc c0_36 (nil_ints _)
  obtain ⟨x5, y5, z5, t5, rfl⟩ : ∃ a1 c1 a2 c2, v5 = .agg #[.int .u8 1, .slice a1 0 c1, .slice a2 0 c2, .int .i64 1, .slice none 0 0, .slice none 0 0] := by
    obtain ⟨_, a1, c1, a2, c2, e, -⟩ := h5
    exact ⟨a1, c1, a2, c2, e⟩
  simp only [Act.put, List.setIfInBounds_toArray, List.set_cons_succ, List.set_cons_zero]
  refine walkP_mem rfl rfl (fun wa hba hFa => ?_) (fun v4 lo4 hi4 l4 g4 h4 => ?_)
  · go_simp
    exact ⟨bal (Below.refl _ _) _, rfl, by simp, Blk.new _ _ _⟩
  obtain ⟨_, rfl, -, -⟩ := h4
  simp only [Act.put, List.setIfInBounds_toArray, List.set_cons_succ, List.set_cons_zero]
  iterate 1 (refine walkP_calm rfl rfl rfl (fun K hK => ?_); go_big_quiet_op; refine hK _ ?_; clear hK K)
  refine walkP_mem rfl rfl (fun wa hba hFa => ?_) (fun v6 lo6 hi6 l6 g6 h6 => ?_)
  · obtain ⟨-, -, f4⟩ := hFa _ (.head _) (by kernel_rfl)
    have f5 : RupOut 0 (cl36 []) _ wa := hFa _ (.tail _ (.head _)) (by kernel_rfl)
    obtain ⟨-, -, f3⟩ := hFa _ (.tail _ (.tail _ (.head _))) (by kernel_rfl)
    have f2 : PBQ 0 wa _ (cl36 [-1]) := hFa _ (.tail _ (.tail _ (.tail _ (.head _)))) (by kernel_rfl)
    have hsl : STSl wa ⟨3, cl36 [-1], [1, 2], []⟩ (.slice x2 1 y2) (.slice z2 1 t2) (.slice (some ⟨lo3, 0, none⟩) 2 2) (.slice none 0 0) := by
      obtain ⟨vl, vk, e, g1, g2, g3, g4, g5⟩ := f2
      simp only [Value.agg.injEq, Array.mk.injEq, List.cons.injEq, and_true] at e
      obtain ⟨rfl, rfl, -⟩ := e
      refine ⟨by dsimp only; omega, ⟨?_, ?_, ?_⟩, Blk.ints (l := [1, 2]) f3 (fitI (by simp [InI])) (by simp), nil_ops _⟩
      · exact g1.ints (by omega)
      · exact g2.ints (by omega)
      · exact g3
    have hsts : STsIs wa (.slice (some ⟨lo4, 0, none⟩) 2 2) [⟨3, cl36 [-1], [1, 2], []⟩, rupL []] := sts_blk (L := [((⟨3, cl36 [-1], [1, 2], []⟩ : ST), .slice x2 1 y2, .slice z2 1 t2, .slice (some ⟨lo3, 0, none⟩) 2 2, .slice none 0 0), (rupL [], .slice x5 0 y5, .slice z5 0 t5, .slice none 0 0, .slice none 0 0)]) f4 (fun q hq => by
      simp only [List.mem_cons, List.not_mem_nil, or_false] at hq
      rcases hq with rfl | rfl
      · exact hsl
      · exact RupOut.st c0_36 f5) rfl rfl (by simp)
    clear f4 f3 f2 f5 hsl
    go_simp
    refine (check36_any _ _ pB36 ⟨[], [⟨3, cl36 [-1], [1, 2], []⟩, rupL []]⟩ wa (HP1.out.prog.below hba) ⟨_, _, rfl, nil_pbs _, hsts⟩ compB_len).mono fun e w5 ⟨h1, h2⟩ => ?_
    rw [checkB'] at h1
    exact ⟨_, h1, h2, rfl⟩
  obtain ⟨_, rfl⟩ := h6
  simp only [Act.put, List.setIfInBounds_toArray, List.set_cons_succ, List.set_cons_zero]
  iterate 5 (refine walkP_calm rfl rfl rfl (fun K hK => ?_); go_big_quiet_op; refine hK _ ?_; clear hK K)
  intro wz hbz hF hI hP
  have HBZ := Lib.hid (bon HB3.out hbz)
  clear hF hI hP hbz ex h2 h5
  go_wp2_with fail
  go_ret
  exact ⟨rfl, HBZ.out⟩
end Go.Proofs.YteblddnoegbalaaGreat
namespace Go.Proofs.YteblddnoegbalaaGreat
open Go.RowKit Go.Sort
def ListsIs (w : World) (v : Value) (L : List (List Int)) : Prop := ∃ vs : Nat → Value, Sl w v 24 L.length vs ∧ ∀ i, i < L.length → Ints w (vs i) (L.getD i [])
theorem ListsIs.below {w w' : World} {v : Value} {L : List (List Int)} (h : ListsIs w v L) (hb : Below w.heap.size w w') : ListsIs w' v L := by
  obtain ⟨vs, h1, h2⟩ := h
  exact ⟨vs, h1.below hb, fun i hi => (h2 i hi).below hb⟩
theorem ListsIs.ownT {w w' : World} {v : Value} {L : List (List Int)} {row : Option Nat} (h : ListsIs w v L) (hg : w.grownBy w' row) (hr : ∀ r, row = some r → ∃ o : Obj, w.heap[r]? = some o ∧ o.isCells = false) : ListsIs w' v L := by
  have key : ∀ {v : Value} {by8 n : Nat} {f : Nat → Value}, Sl w v by8 n f → Sl w' v by8 n f := fun {v by8 n f} h => by
    obtain ⟨a, cap, e, h1, hm, h2, h3⟩ := h
    exact ⟨a, cap, e, h1, hm, h2, fun h0 => let ⟨b, off, e, hl, hc⟩ := h3 h0; ⟨b, off, e, Nat.lt_of_lt_of_le hl hg.size, fun i hi => cell_kept (hc i hi) hg hr⟩⟩
  obtain ⟨vs, h1, h2⟩ := h
  exact ⟨vs, key h1, fun i hi => ⟨key (h2 i hi).1, (h2 i hi).2⟩⟩
structure RowE (w : World) (blk : Nat) where
  v : Value
  l : List Int
  form : ∃ a n c, v = .slice a n c
  ints : ∀ W', Lim w.heap.size [blk] w W' → Ints W' v l
theorem nil_intsE (W : World) : Ints W (.slice none 0 0) [] := nil_ints W
instance rowE_inh (w : World) (blk : Nat) : Inhabited (RowE w blk) := ⟨⟨.slice none 0 0, [], ⟨_, _, _, rfl⟩, fun W' _ => nil_intsE W'⟩⟩
end Go.Proofs.YteblddnoegbalaaGreat
namespace Go.Proofs.YteblddnoegbalaaGreat
def falseC : PBC := ⟨[], [], 1⟩
end Go.Proofs.YteblddnoegbalaaGreat
namespace Go.Proofs.YteblddnoegbalaaGreat
def SmallC (c : PBC) : Prop := ∃ (X K : List Int) (b : Int), normP X K b = (c, 0) ∧ X.length ≤ 8 ∧ (∀ v ∈ X, v.natAbs ≤ 7) ∧ (∀ j, j < X.length → -5 ≤ ix K j ∧ ix K j ≤ 5) ∧ -11 ≤ b ∧ b ≤ 11
theorem insK_len36 (v : Int) : ∀ l : List Int, (insK v l).length ≤ l.length + 1
  | [] => by simp [insK]
  | x :: l => by
    have ih := insK_len36 v l
    unfold insK
    split
    · simp
    · split
      · simp
      · simp only [List.length_cons]; omega
theorem keys_len36 : ∀ L : List Int, (keysOf L).length ≤ L.length
  | [] => Nat.le_refl _
  | x :: L => by
    have h1 := keys_len36 L
    have h2 := insK_len36 (x.natAbs : Int) (keysOf L)
    show (insK (x.natAbs : Int) (keysOf L)).length ≤ _
    simp only [List.length_cons]
    omega
theorem byTo_small {L K : List Int} {v : Int} : ∀ (i : Nat), (∀ j, j < i → -5 ≤ ix K j ∧ ix K j ≤ 5) → -(5 * (i : Int)) ≤ byTo L K v i ∧ byTo L K v i ≤ 5 * (i : Int)
  | 0, _ => by show -(5 * (0 : Int)) ≤ 0 ∧ (0 : Int) ≤ 5 * 0; omega
  | i + 1, h => by
    have ih := byTo_small (L := L) (v := v) i fun j hj => h j (by omega)
    have h1 := h i (by omega)
    unfold byTo
    push_cast
    split
    · omega
    · split <;> omega
theorem negTo_small {L K : List Int} : ∀ (i : Nat), (∀ j, j < i → -5 ≤ ix K j ∧ ix K j ≤ 5) → -(5 * (i : Int)) ≤ negTo L K i ∧ negTo L K i ≤ 5 * (i : Int)
  | 0, _ => by show -(5 * (0 : Int)) ≤ 0 ∧ (0 : Int) ≤ 5 * 0; omega
  | i + 1, h => by
    have ih := negTo_small (L := L) i fun j hj => h j (by omega)
    have h1 := h i (by omega)
    unfold negTo
    push_cast
    split <;> omega
theorem SmallC.facts {c : PBC} (h : SmallC c) : pbV c = true ∧ Within 7 c ∧ c.bound ≤ 371 ∧ c.lits.length ≤ 8 := by
  obtain ⟨X, K, b, hn, h1, h2, h3, h4, h5⟩ := h
  have hf := (normP_form hn).2.2
  have hb := sumI_bound (f := fun v => lowI (byTo X K v X.length)) (m := 40) (keysOf X) fun v _ => by
    have := byTo_small (L := X) (v := v) X.length h3
    unfold lowI
    split <;> omega
  have hk := keys_len36 X
  have hg := negTo_small (L := X) X.length h3
  refine ⟨normP_valid hn, fun l hl => ?_, ?_, ?_⟩
  · obtain ⟨x, hx, e⟩ := normP_vars hn l hl
    have := h2 x hx
    omega
  · unfold normC at hf
    split at hf
    · cases hf; show (0 : Int) ≤ 371; omega
    · split at hf
      · cases hf; show (1 : Int) ≤ 371; omega
      · split at hf
        · cases hf
        · cases hf
          dsimp only
          omega
  · unfold normC at hf
    split at hf
    · cases hf; exact Nat.zero_le _
    · split at hf
      · cases hf; exact Nat.zero_le _
      · split at hf
        · cases hf
        · cases hf
          dsimp only
          rw [List.length_map]
          have := List.length_filter_le (fun v => byTo X K v X.length != 0) (keysOf X)
          omega
theorem SmallC.neg {c : PBC} (h : SmallC c) : (negP c).2 = 0 := by
  obtain ⟨hv, -, hb, hl⟩ := h.facts
  obtain ⟨he, hb0, -, hok, -⟩ := pbV_parts hv
  have hs := okF_bound _ 0 (Int.le_refl _) hok
  rw [List.length_zip, ← he, Nat.min_self] at hs
  have hm : c.bound * (c.lits.length : Int) ≤ 371 * 8 := Int.le_trans (Int.mul_le_mul_of_nonneg_right hb (by omega)) (Int.mul_le_mul_of_nonneg_left (by omega) (by omega))
  have hz : ∀ j, j < c.lits.length → ix c.lits j ≠ 0 ∧ (ix c.lits j).natAbs ≤ 65536 ∧ 1 ≤ ix c.coefs j ∧ ix c.coefs j ≤ c.bound := fun j hj => pbV_lits hv (x := (ix c.lits j, ix c.coefs j)) (List.mem_of_getElem? (zip_at hj he))
  unfold negP
  rw [if_pos hv, normP_ok]
  · rw [negL_len]; exact he
  · rw [negL_len]; omega
  · omega
  · intro l hl'
    obtain ⟨y, hy, rfl⟩ := List.mem_map.1 hl'
    obtain ⟨j, hj, rfl⟩ := mem_ix.1 hy
    have := hz j hj
    unfold plitB
    rw [decide_eq_true_eq]
    omega
  · intro j hj
    rw [negL_len] at hj
    have := hz j hj
    omega
theorem rup36_self {db : List PBC} {x : PBC} (h : ∀ c ∈ db, SmallC c) (hx : x ∈ db) (hb : x.bound ≤ 1) : rupB db x = true := rup_self (fun c hc => (h c hc).facts.1) hx hb
theorem rup36_contra {rest : List PBC} {c : PBC} (h : ∀ c ∈ rest, SmallC c) (hc : SmallC c) : rupB (falseC :: rest) c = true :=
  rup_contra (fun d hd => by
    rcases List.mem_cons.1 hd with rfl | hd
    · decide
    · exact (h d hd).facts.1) hc.neg (List.mem_cons_self ..)
theorem rup36_sound {rest : List PBC} {c : PBC} {a : List Int} (h : ∀ c ∈ rest, SmallC c) (hc : SmallC c) (ha : a.length = 7) (ht : Total a) (hr : rupB rest c = true) (hs : ∀ d ∈ rest, holdsC d a = true) : holdsC c a = true := by
  have key : ∀ {d : PBC}, SmallC d → holdsC d a = satC (tOf a) d := fun {d} hd => by
    obtain ⟨hv, hw, -⟩ := hd.facts
    unfold holdsC satC
    rw [hv, Bool.true_and, sumW_congr (t := onB a) (u := tOf a) fun x hx => ?_]
    have := hw x.1 (List.of_mem_zip hx).1
    unfold tOf
    rw [if_pos (by omega)]
  rw [key hc]
  exact rup_sound (tOf_tot ht) hr fun d hd => by rw [← key (h d hd)]; exact hs d hd
end Go.Proofs.YteblddnoegbalaaGreat
