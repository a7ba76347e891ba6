/- My texts Ck41, Sp41, RwY, Sw41, merged. -/
import Derived.Test.YtfajkmmmmmfhiaaGreatDoorM16
import Derived.Test.YtfajkmmmmmfhiaaGreatDoorM13
import Derived.Test.YtfajkmmmmmfhiaaGreatDoorM12
import Derived.Test.YtfajkmmmmmfhiaaGreatDoorM09
import Derived.Test.YtfajkmmmmmfhiaaGreatDoorM08
import Derived.Test.YtfajkmmmmmfhiaaGreatDoorM07
import Derived.Test.YtfajkmmmmmfhiaaGreatDoorM20
import Derived.Test.YtfajkmmmmmfhiaaGreatDoorM06
import Derived.Test.YtfajkmmmmmfhiaaGreatDoorM05
import Derived.Test.YtfajkmmmmmfhiaaGreatDoorM04
import Derived.Test.YtfajkmmmmmfhiaaGreatDoorM03
import Derived.Test.YtfajkmmmmmfhiaaGreatDoorM00
import Derived.Test.YtfajkmmmmmfhiaaGreatDoorProg
import Derived.WalkKit
import Derived.Lib.Hide
import Derived.Deep.QuietTactic
import Derived.BigQuiet
import Derived.WalkSpells
import Derived.Lib.SliceRun
import Derived.MapKept
import Derived.Maps.OwnSet
import Derived.Maps.OwnOps
import Derived.Test.YtfajkmmmmmfhiaaGreatDoorM02
import Derived.Test.YtfajkmmmmmfhiaaGreatDoorM01
import Derived.Deep.AppendLies
import Derived.Lib.Bytealg
import Derived.Deep.DeepCutAuto
import Derived.Laws.EntriesVeiled
import Derived.Deep.RegionWith
import Derived.Deep.OwnRows
import Derived.RangeFuncNested
import Derived.RangeFuncBound
import Derived.RangeFuncCalls
import Derived.RangeFuncLeaves
import Derived.OwnWalkIn
import Derived.TacticsInMore
import Derived.LoopNIn
import Derived.LoopIn
import Derived.Stop.RegionWithIn
import Derived.Shelf.Abstract
import Derived.Deep.LoopGhost
import Derived.Deep.DrawnRows
import Derived.Shelf.Sort.Plain
import Derived.Shelf.Slices.CompactI
import Derived.Shelf.Slices.In.SortNone
import Derived.Shelf.Strconv.Itoa3
import Derived.Shelf.Strings.BuilderK
import Derived.Shelf.Slices.SearchI
import Derived.Shelf.Slices.Empties
import Derived.Deep.AppendSrc
import Derived.Lib.SlicesCompact
import Derived.Sort.OwnSortedInts
import Derived.Test.YtfajkmmmmmfhiaaGreatDoorM11
import Derived.Test.YtfajkmmmmmfhiaaGreatDoorM15
import Derived.Test.YtfajkmmmmmfhiaaGreatDoorM14
import Derived.Sort.QuietThIn
import Derived.Maps.RangeWalk
import Derived.RangeFuncBox
import Derived.Maps.OwnIn
import Derived.Lib.RowBridge
import Derived.Test.YtfajkmmmmmfhiaaGreatDoorM17
import Derived.Test.YtfajkmmmmmfhiaaGreatDoorM19
import Derived.Test.YtfajkmmmmmfhiaaGreatDoorM10
import Derived.Lib.ItoaNum
import Derived.Test.YtfajkmmmmmfhiaaGreatDoorM28
import Derived.ProofKit
import Derived.OpenShut
import Derived.ChangeArms
import Derived.SizedLaws
import Derived.Deep.CutBlock

namespace Go.Proofs.YtfajkmmmmmfhiaaGreatDoor
open Go.RowKit
section
variable {v vset vx : Value} {p : GP} {m : List Int} {x : XP} {w : World}
theorem support_bad {a : Int} (hE : xE p m = 0) (hc : chkX p m x = false) (ha : InI a) (h : ProgIs w v p) (hm : Ints w vset m) (hx : ExplIs w vx x) (hl : x.whys.length ≤ 500) :
    Calls Tryz.prog 16 #[v, vset, vx, .int .i64 a] w fun e w' => ∃ vo, e = .returned (.tuple #[vo, .int .i64 2]) ∧ Below w.heap.size w w' := by
  refine (support_any v vset vx p m x a w h hm hx ha hl).mono ?_
  rintro e w' ⟨vo, out, E, rfl, -, hb, h1 | h1 | h1 | h1⟩
  · exact absurd hE h1.1
  · obtain ⟨-, -, rfl, -⟩ := h1; exact ⟨vo, rfl, hb⟩
  · rw [hc] at h1; exact absurd h1.2.1 Bool.false_ne_true
  · rw [hc] at h1; exact absurd h1.2.1 Bool.false_ne_true
end
theorem spoil_len {p : GP} {m : List Int} {x : XP} {l : List WY} (h : chkX p m x = true) (hl : l.length ≠ x.whys.length) : chkX p m ⟨l, x.rest⟩ = false := by
  cases e : chkX p m ⟨l, x.rest⟩ with
  | false => rfl
  | true =>
    have h1 := chk_len h
    have h2 := chk_len e
    dsimp only at h2
    omega
theorem spoil_rng {p : GP} {m : List Int} {l : List WY} {r : List Int} {i : Nat} (hi : i < l.length) (h : rngY p (ixY l i) = false) : chkX p m ⟨l, r⟩ = false := by
  cases e : chkX p m ⟨l, r⟩ with
  | false => rfl
  | true =>
    have := allR_get (chk_parts e).1 i hi
    rw [h] at this; cases this
theorem ordY_trans {a b c : WY} (h1 : ordY a b = true) (h2 : ordY b c = true) : ordY a c = true := by
  simp only [ordY, Bool.or_eq_true, Bool.and_eq_true, decide_eq_true_eq] at *
  omega
theorem ordY_refl (a : WY) : ordY a a = true := by
  simp [ordY]
theorem ord_far {l : List WY} (h : allR (l.length - 1) (fun i => ordY (ixY l i) (ixY l (i + 1))) = true) (i : Nat) : ∀ d, i + d < l.length → ordY (ixY l i) (ixY l (i + d)) = true
  | 0, _ => ordY_refl _
  | d + 1, hd => ordY_trans (ord_far h i d (by omega)) (allR_get h (i + d) (by omega))
theorem spoil_ord {p : GP} {m : List Int} {l : List WY} {r : List Int} {i j : Nat} (hij : i ≤ j) (hj : j < l.length) (h : ordY (ixY l i) (ixY l j) = false) : chkX p m ⟨l, r⟩ = false := by
  cases e : chkX p m ⟨l, r⟩ with
  | false => rfl
  | true =>
    have h2 : allR (l.length - 1) (fun i => ordY (ixY l i) (ixY l (i + 1))) = true := (chk_parts e).2.2
    have := ord_far h2 i (j - i) (by omega)
    rw [show i + (j - i) = j by omega, h] at this
    cases this
theorem spoil_swap {p : GP} {m : List Int} (hm : setQ p.n m = true) (h2 : 2 ≤ (explX p m).whys.length) : ordY (ixY (explX p m).whys ((explX p m).whys.length - 1)) (ixY (explX p m).whys 0) = false := by
  have ho : (explX p m).whys.Pairwise (fun a b => a.level < b.level ∨ (a.level = b.level ∧ a.atom < b.atom)) := by
    rw [explX_ref]; exact exrTo_ord p (setQ_sorted hm) _
  generalize (explX p m).whys = L at *
  have := List.pairwise_iff_getElem.1 ho 0 (L.length - 1) (by omega) (by omega) (by omega)
  rw [← ixY_get, ← ixY_get] at this
  unfold ordY
  simp only [Bool.or_eq_false_iff, Bool.and_eq_false_iff, decide_eq_false_iff_not]
  omega
def RowY (D : List Value) (L : List WY) : Prop := ∀ i, i < L.length → ∀ j, j < 3 → D[i * 3 + j]? = some (whyCell (ixY L i) j)
theorem whyCell_cells (y : WY) {j : Nat} (hj : j < 3) : (cellsY y)[j]? = some (whyCell y j) := by
  rcases (show j = 0 ∨ j = 1 ∨ j = 2 by omega) with rfl | rfl | rfl <;> rfl
theorem MineY.open {B : Nat} {v : Value} {L : List WY} {w : World} (h : MineY B v L w) (hL : 0 < L.length) : ∃ g cap D, v = .slice (some ⟨g, 0, none⟩) L.length cap ∧ B ≤ g ∧ Blk w g D 49 ∧ L.length ≤ cap ∧ cap ≤ maxLen ∧ D.length = cap * 3 ∧ RowY D L := by
  rcases h.1.2 with ⟨-, h0⟩ | ⟨g, cap, cur, rfl, hb, hg, hn, hm, hs, hx⟩
  · omega
  refine ⟨g, cap, cur.toList, rfl, hb, by unfold Blk; simpa using hg, hn, hm, by simpa using hs, fun i hi j hj => ?_⟩
  have h6 := flatY L i j hi hj
  rw [← hx, List.getElem?_take_of_lt (by omega)] at h6
  rw [h6, whyCell_cells _ hj]
theorem MineY.block {B g n cap : Nat} {L : List WY} {w : World} (h : MineY B (.slice (some ⟨g, 0, none⟩) n cap) L w) (hL : 0 < L.length) : ∃ D, B ≤ g ∧ Blk w g D 49 ∧ L.length ≤ cap ∧ cap ≤ maxLen ∧ D.length = cap * 3 ∧ RowY D L := by
  obtain ⟨g', cap', D, e, h1, h2, h3⟩ := h.open hL
  simp only [Value.slice.injEq, Option.some.injEq, Addr.mk.injEq, and_true] at e
  obtain ⟨rfl, -, rfl⟩ := e
  exact ⟨D, h1, h2, h3⟩
theorem RowY.whys {w : World} {g cap : Nat} {D : List Value} {L : List WY} (h : RowY D L) (hb : Blk w g D 49) (hy : ∀ y ∈ L, YI y) (hc : L.length ≤ cap) (hm : cap ≤ maxLen) (hl : L.length ≤ 1000000000) : WhysIs w (.slice (some ⟨g, 0, none⟩) L.length cap) L :=
  ⟨⟨_, cap, rfl, hc, hm, by omega, fun _ => ⟨g, 0, rfl, hb.lt, fun i hi j hj => by
    rw [hb.cell, Nat.zero_add]; exact h i hi j hj⟩⟩, hy⟩
theorem ixY_setY {L : List WY} {k i : Nat} {y : WY} (hk : k < L.length) : ixY (L.set k y) i = if i = k then y else ixY L i := by
  unfold ixY
  rw [List.getD_eq_getElem?_getD, List.getElem?_set]
  by_cases e : k = i
  · subst e; simp [hk]
  · rw [if_neg e, if_neg (fun h => e h.symm), List.getD_eq_getElem?_getD]
theorem RowY.set {D : List Value} {L : List WY} (h : RowY D L) {k j : Nat} (hk : k < L.length) (hj : j < 3) {y : WY} {u : Value} (h1 : whyCell y j = u) (h2 : ∀ q, q < 3 → q ≠ j → whyCell y q = whyCell (ixY L k) q) : RowY (D.set (k * 3 + j) u) (L.set k y) := fun i hi q hq => by
  rw [List.length_set] at hi
  have h0 := h i hi q hq
  rw [ixY_setY hk]
  by_cases e : k * 3 + j = i * 3 + q
  · have e1 : i = k := by omega
    have e2 : q = j := by omega
    subst e1 e2
    rw [List.getElem?_set_self (List.getElem?_eq_some_iff.1 h0).1, if_pos rfl, h1]
  · rw [List.getElem?_set_ne e, h0]
    by_cases e1 : i = k
    · subst e1
      rw [if_pos rfl, h2 q hq (fun e2 => e (by rw [e2]))]
    · rw [if_neg e1]
theorem RowY.set3 {D : List Value} {L : List WY} (h : RowY D L) {k : Nat} (hk : k < L.length) (y : WY) : RowY (((D.set (k * 3) (.int .i64 y.atom)).set (k * 3 + 1) (.int .i64 y.rule)).set (k * 3 + 2) (.int .i64 y.level)) (L.set k y) := fun i hi q hq => by
  rw [List.length_set] at hi
  have h0 := h i hi q hq
  have hlt := (List.getElem?_eq_some_iff.1 h0).1
  rw [ixY_setY hk]
  by_cases e1 : i = k
  · subst e1
    rw [if_pos rfl]
    rcases (show q = 0 ∨ q = 1 ∨ q = 2 by omega) with rfl | rfl | rfl
    · rw [List.getElem?_set_ne (by omega), List.getElem?_set_ne (by omega), Nat.add_zero, List.getElem?_set_self (by simpa using hlt)]; rfl
    · rw [List.getElem?_set_ne (by omega), List.getElem?_set_self (by simpa using hlt)]; rfl
    · rw [List.getElem?_set_self (by simpa using hlt)]; rfl
  · rw [if_neg e1, List.getElem?_set_ne (by omega), List.getElem?_set_ne (by omega), List.getElem?_set_ne (by omega), h0]
theorem RowY.swap {W : World} {g cap : Nat} {D : List Value} {L : List WY} (h : RowY D L) (hb : Blk W g D 49) (hY : ∀ y ∈ L, YI y) (hc : L.length ≤ cap) (hm : cap ≤ maxLen) (hl : L.length ≤ 1000000000) {i k : Nat} (hi : i < L.length) (hk : k < L.length) {a b : WY} (ha : YI a) (hb' : YI b) :
    WhysIs ((((((W.setCell ⟨g, i * 3, none⟩ (.int .i64 a.atom)).setCell ⟨g, i * 3 + 1, none⟩ (.int .i64 a.rule)).setCell ⟨g, i * 3 + 2, none⟩ (.int .i64 a.level)).setCell ⟨g, k * 3, none⟩ (.int .i64 b.atom)).setCell ⟨g, k * 3 + 1, none⟩ (.int .i64 b.rule)).setCell ⟨g, k * 3 + 2, none⟩ (.int .i64 b.level)) (.slice (some ⟨g, 0, none⟩) L.length cap) ((L.set i a).set k b) := by
  have h2 := (h.set3 hi a).set3 (by rw [List.length_set]; exact hk : k < (L.set i a).length) b
  have := h2.whys (cap := cap) ((((((hb.set _ _).set _ _).set _ _).set _ _).set _ _).set _ _) (fun z hz => by
    rcases List.mem_or_eq_of_mem_set hz with hz | rfl
    · rcases List.mem_or_eq_of_mem_set hz with hz | rfl
      · exact hY z hz
      · exact ha
    · exact hb') (by rw [List.length_set, List.length_set]; exact hc) hm (by rw [List.length_set, List.length_set]; exact hl)
  rwa [List.length_set, List.length_set] at this
theorem RowY.part {W : World} {g n k c : Nat} {D : List Value} {L M : List WY} (h : RowY D L) (hb : Blk W g D 49) (hY : ∀ y ∈ L, YI y) (hM : M.length = n) (hsub : ∀ i, i < n → k + i < L.length ∧ ixY M i = ixY L (k + i)) (hn : n ≤ c) (hc : c ≤ maxLen) (hl : n ≤ 1000000000) : WhysIs W (.slice (some ⟨g, k * 3, none⟩) n c) M := by
  subst hM
  refine ⟨⟨_, c, rfl, hn, hc, by omega, fun _ => ⟨g, k * 3, rfl, hb.lt, fun i hi j hj => ?_⟩⟩, fun y hy => ?_⟩
  · obtain ⟨h1, h2⟩ := hsub i hi
    show W.cell? ⟨g, k * 3 + i * 3 + j, none⟩ = some (whyCell (ixY M i) j)
    rw [hb.cell, h2, ← h (k + i) h1 j hj, show k * 3 + i * 3 + j = (k + i) * 3 + j by omega]
  · obtain ⟨i, hi, rfl⟩ := mem_ixY hy
    obtain ⟨h1, h2⟩ := hsub i hi
    rw [h2]; exact hY _ (ixY_mem0 h1)
theorem ixY_take {L : List WY} {k i : Nat} (hi : i < k) : ixY (L.take k) i = ixY L i := by
  unfold ixY
  rw [List.getD_eq_getElem?_getD, List.getElem?_take_of_lt hi, List.getD_eq_getElem?_getD]
theorem ixY_drop (L : List WY) (k i : Nat) : ixY (L.drop k) i = ixY L (k + i) := by
  unfold ixY
  rw [List.getD_eq_getElem?_getD, List.getElem?_drop, List.getD_eq_getElem?_getD]
theorem RowY.put {W : World} {g cap : Nat} {D : List Value} {L : List WY} (h : RowY D L) (hb : Blk W g D 49) (hY : ∀ y ∈ L, YI y) (hc : L.length ≤ cap) (hm : cap ≤ maxLen) (hl : L.length ≤ 1000000000) {k j : Nat} (hk : k < L.length) (hj : j < 3) {y : WY} {u : Value} (h1 : whyCell y j = u) (h2 : ∀ q, q < 3 → q ≠ j → whyCell y q = whyCell (ixY L k) q) (hy : YI y) :
    WhysIs (W.setCell ⟨g, k * 3 + j, none⟩ u) (.slice (some ⟨g, 0, none⟩) L.length cap) (L.set k y) := by
  have := (h.set hk hj h1 h2).whys (cap := cap) (hb.set _ _) (fun z hz => by
    rcases List.mem_or_eq_of_mem_set hz with hz | rfl
    · exact hY z hz
    · exact hy) (by rw [List.length_set]; exact hc) hm (by rw [List.length_set]; exact hl)
  rwa [List.length_set] at this
theorem wpList_appendYW {ops : Array Oper} {rest : List Oper} {o : Oper} {a : Act} {w : World} {Q : Exit → Act → World → Prop} (hgd : o.guard = none) (s x : Operand)
    (ho : o.op = .call { callee := .builtin .append, args := #[s, x], argTypes := #[28, 28] }) (B : Nat) (v y : Value) (L M : List WY) (hs : a.eval s = v) (hx : a.eval x = y) (h : MineY B v L w) (hy : WhysIs w y M) (hM : 0 < M.length)
    (hlen : L.length + M.length ≤ 1000000000) (hbase : B ≤ w.heap.size)
    (hK : ∀ g cap w', MineY B (.slice (some ⟨g, 0, none⟩) (L.length + M.length) cap) (L ++ M) w' → w.grownBy w' v.ownBlock → wpList Tryz.prog ops Q rest (a.put o.dst (.slice (some ⟨g, 0, none⟩) (L.length + M.length) cap)) w') : wpList Tryz.prog ops Q (o :: rest) a w := by
  obtain ⟨i0, hi, hz0, hz1, hz2⟩ := info_parts infoY
  have hys := hy.2
  obtain ⟨a0, cap, rfl, -, -, -, hc⟩ := hy.form
  obtain ⟨b, off, rfl, hb, hcc⟩ := hc hM
  have hfl : ∀ M : List WY, (M.flatMap cellsY).length = M.length * 3 := fun M => by
    induction M with
    | nil => rfl
    | cons q M ih => rw [List.flatMap_cons, List.length_append, ih, List.length_cons]; simp [cellsY]; omega
  refine wpList_append_own w hgd s x _ ho B 49 i0 _ 3 24 Tryz.underlying28 hi hz0 hz1 hz2 rfl (by decide) _ L.length (L.flatMap cellsY) hs h.1 ⟨b, off, none⟩ M.length cap (M.flatMap cellsY) hx (hfl M) (fun j u hu => ?_) (fun u hu => ?_) (by unfold maxLen; omega) (by omega) hbase (fun v' w' h1 h2 _ => ?_)
  · have hj : j < M.length * 3 := by have := (List.getElem?_eq_some_iff.1 hu).1; rw [hfl] at this; exact this
    have hq : j = (j / 3) * 3 + j % 3 := by omega
    have hq3 : j % 3 < 3 := Nat.mod_lt _ (by decide)
    have hqM : j / 3 < M.length := by omega
    rw [hq, flatY M (j / 3) (j % 3) hqM hq3, whyCell_cells _ hq3] at hu
    rw [Addr.add_lit, ← hu]
    obtain ⟨h0, h1, h2⟩ := hcc _ hqM
    rcases (show j % 3 = 0 ∨ j % 3 = 1 ∨ j % 3 = 2 by omega) with e | e | e
    · rw [e, show off + j = off + j / 3 * 3 by omega]; exact h0
    · rw [e, show off + j = off + j / 3 * 3 + 1 by omega]; exact h1
    · rw [e, show off + j = off + j / 3 * 3 + 2 by omega]; exact h2
  · obtain ⟨q, hqm, hq⟩ := List.mem_flatMap.1 hu
    simp only [cellsY, List.mem_cons, List.not_mem_nil, or_false] at hq
    rcases hq with rfl | rfl | rfl <;> rfl
  · have hne : ∃ g2 cap2, v' = .slice (some ⟨g2, 0, none⟩) (L.length + M.length) cap2 := by
      rcases h1.2 with ⟨-, h0⟩ | ⟨g2, cap2, cur2, rfl, _⟩
      · omega
      · exact ⟨g2, cap2, rfl⟩
    obtain ⟨g2, cap2, rfl⟩ := hne
    refine hK g2 cap2 w' ⟨by simpa using h1, fun q hq => ?_⟩ h2
    rcases List.mem_append.1 hq with hq | hq
    · exact h.2 q hq
    · exact hys q hq
theorem flatY_len : ∀ M : List WY, (M.flatMap cellsY).length = M.length * 3
  | [] => rfl
  | q :: M => by rw [List.flatMap_cons, List.length_append, flatY_len M, List.length_cons]; simp [cellsY]; omega
theorem whys_cells {w : World} {b off : Nat} {M : List WY} (hcc : ∀ i, i < M.length → WhyCells w b (off + i * 3) (ixY M i)) (j : Nat) (u : Value) (hu : (M.flatMap cellsY)[j]? = some u) : w.cell? ((⟨b, off, none⟩ : Addr).add j) = some u := by
  have hj : j < M.length * 3 := by have := (List.getElem?_eq_some_iff.1 hu).1; rw [flatY_len] at this; exact this
  have hq : j = (j / 3) * 3 + j % 3 := by omega
  have hq3 : j % 3 < 3 := Nat.mod_lt _ (by decide)
  have hqM : j / 3 < M.length := by omega
  rw [hq, flatY M (j / 3) (j % 3) hqM hq3, whyCell_cells _ hq3] at hu
  rw [Addr.add_lit, ← hu]
  obtain ⟨h0, h1, h2⟩ := hcc _ hqM
  rcases (show j % 3 = 0 ∨ j % 3 = 1 ∨ j % 3 = 2 by omega) with e | e | e
  · rw [e, show off + j = off + j / 3 * 3 by omega]; exact h0
  · rw [e, show off + j = off + j / 3 * 3 + 1 by omega]; exact h1
  · rw [e, show off + j = off + j / 3 * 3 + 2 by omega]; exact h2
theorem wp_growYW {o : Oper} {a : Act} {w : World} {K : Act → World → Prop} {Q : Exit → Act → World → Prop} (s x : Operand)
    (ho : o.op = .call { callee := .builtin .append, args := #[s, x], argTypes := #[28, 28] }) (g n k : Nat) (y : Value) (L M : List WY) (hn : L.length = n) (hk : M.length = k) (hs : a.eval s = .slice (some ⟨g, 0, none⟩) n n) (hx : a.eval x = y)
    (h : ∀ i, i < L.length → WhyCells w g (0 + i * 3) (ixY L i)) (hL : ∀ q ∈ L, YI q) (hy : WhysIs w y M) (hM : 0 < M.length) (hlen : L.length + M.length ≤ 1000000000)
    (hK : ∀ cap w', MineY w.heap.size (.slice (some ⟨w.heap.size, 0, none⟩) (n + k) cap) (L ++ M) w' → Below w.heap.size w w' → K (a.put o.dst (.slice (some ⟨w.heap.size, 0, none⟩) (n + k) cap)) w') : o.wp Tryz.prog a w K Q := by
  subst hn hk
  obtain ⟨i0, hi, hz0, hz1, hz2⟩ := info_parts infoY
  have hys := hy.2
  obtain ⟨a0, c, rfl, -, -, -, hc⟩ := hy.form
  obtain ⟨b, off, rfl, hb, hcc⟩ := hc hM
  have hr := run_append_grow (P := Tryz.prog) w 28 o.type 49 i0 _ Tryz.underlying28 hi hz0 ⟨g, 0, none⟩ L.length L.length (L.flatMap cellsY) (by rw [hz1]; exact flatY_len L) (whys_cells h) ⟨b, off, none⟩ M.length c (M.flatMap cellsY) (by rw [hz1]; exact flatY_len M) (whys_cells hcc) (by omega) (by omega) (growslice_fits (by omega) (by rw [hz2]; omega))
  have hge := grownCap_ge w (L.length + M.length) L.length 49
  have hle := grownCap_le_maxLen w (L.length + M.length) L.length 49 (by unfold maxLen; omega)
  have zc : ∀ n, (Builtin.zeroCells (Value.agg #[.int .i64 0, .int .i64 0, .int .i64 0]).cells n).size = n * 3 := fun n => by simp [Builtin.zeroCells, Value.cells]
  have hrow : (w.drew.alloc (.cells ((L.flatMap cellsY).toArray ++ (M.flatMap cellsY).toArray ++ Builtin.zeroCells (Value.agg #[.int .i64 0, .int .i64 0, .int .i64 0]).cells (grownCap w (L.length + M.length) L.length 49 - (L.length + M.length))) 49)).ownsRow w.heap.size 49 3 (.slice (some ⟨w.heap.size, 0, none⟩) (L.length + M.length) (grownCap w (L.length + M.length) L.length 49)) (L.length + M.length) (L.flatMap cellsY ++ M.flatMap cellsY) := by
    refine ⟨by rw [List.length_append, flatY_len, flatY_len, Nat.add_mul], .inr ⟨w.heap.size, _, _, rfl, Nat.le_refl _, heap_alloc_new w.drew _, hge, hle, ?_, ?_⟩⟩
    · simp only [Array.size_append, List.size_toArray, flatY_len, zc]
      omega
    · rw [Array.toList_append, Array.toList_append]
      rw [List.take_append_of_le_length (by rw [List.length_append, flatY_len, flatY_len]; omega), List.take_of_length_le (by rw [List.length_append, flatY_len, flatY_len]; omega)]
  unfold Oper.wp execOp
  simp only [ho, resolve, invoke, builtin, Sem.run_bind, Sem.run_pure, Result.andThen_ok, List.map_toArray, List.map_cons, List.map_nil, hs, hx, hr]
  refine hK _ _ ⟨by simpa using hrow, fun q hq => ?_⟩ (((Below.refl _ _).drew).alloc (Nat.le_refl _) _)
  rcases List.mem_append.1 hq with hq | hq
  · exact hL q hq
  · exact hys q hq
theorem wp_appendNoneY {o : Oper} {a : Act} {w : World} {K : Act → World → Prop} {Q : Exit → Act → World → Prop} (s x : Operand)
    (ho : o.op = .call { callee := .builtin .append, args := #[s, x], argTypes := #[28, 28] }) (b : Addr) (oa : Option Addr) (n c n2 c2 : Nat) (hoa : ∃ ad, oa = some ad) (h0 : n2 = 0) (hn : n ≤ c) (hs : a.eval s = .slice (some b) n c) (hx : a.eval x = .slice oa n2 c2)
    (hK : K (a.put o.dst (.slice (some b) n c)) w) : o.wp Tryz.prog a w K Q := by
  subst h0
  obtain ⟨ad, rfl⟩ := hoa
  obtain ⟨i0, hi, hz0, hz1, hz2⟩ := info_parts infoY
  have hT := Tryz.underlying28
  have hf := run_firstCells_some (P := Tryz.prog) w i0.size 0 ad 0 c2 [] (by simp) (fun j u hu => by simp at hu)
  have hr : (Builtin.append_ #[28, 28] o.type #[.slice (some b) n c, .slice (some ad) 0 c2]).run Tryz.prog w = .ok (.slice (some b) n c) w := by
    simp [Builtin.append_, run_underlying hT, sizeOf, typeInfo, hi, Builtin.lenOf, hf, hn, storeCells]
  unfold Oper.wp execOp
  simp only [ho, resolve, invoke, builtin, Sem.run_bind, Sem.run_pure, Result.andThen_ok, List.map_toArray, List.map_cons, List.map_nil, hs, hx, hr]
  exact hK
theorem wpList_cloneY {ops : Array Oper} {rest : List Oper} {o : Oper} {a : Act} {w : World} {Q : Exit → Act → World → Prop} (hgd : o.guard = none) (s x : Operand)
    (ho : o.op = .call { callee := .builtin .append, args := #[s, x], argTypes := #[28, 28] }) (y : Value) (M : List WY) (hs : a.eval s = .slice (some ⟨w.heap.size, 0, none⟩) 0 0) (hx : a.eval x = y) (hy : WhysIs w y M) (hM : 0 < M.length) (hlen : M.length ≤ 1000000000)
    (hK : ∀ g cap w', MineY w.heap.size (.slice (some ⟨g, 0, none⟩) M.length cap) M w' → Below w.heap.size w w' → wpList Tryz.prog ops Q rest (a.put o.dst (.slice (some ⟨g, 0, none⟩) M.length cap)) w') : wpList Tryz.prog ops Q (o :: rest) a (w.alloc (.cells #[] 49)) := by
  have hal : Below w.heap.size w (w.alloc (.cells #[] 49)) := bal (Below.refl _ _) _
  refine wpList_appendYW hgd s x ho w.heap.size _ y [] M hs hx ⟨⟨rfl, .inr ⟨w.heap.size, 0, #[], rfl, Nat.le_refl _, heap_alloc_new w _, Nat.le_refl _, by unfold maxLen; omega, rfl, rfl⟩⟩, fun q hq => by cases hq⟩ (hy.below hal) hM (by simpa using hlen) hal.size (fun g cap w' h1 h2 => ?_)
  have e : ([] : List WY).length + M.length = M.length := by simp
  rw [e] at h1 ⊢
  exact hK g cap w' h1 (hal.grown h2 hal.size fun k e2 => by simp [Value.ownBlock] at e2; omega)
structure Sp41 (w : World) (p : GP) (vn vs vr vm vS : Value) (m : List Int) (xb : Nat) (v1 v2 : Value) (L : List WY) (R : List Int) (W : World) : Prop where
  st : E41 w p vn vs vr vm W
  set : Ints W vS m
  xbx : Blk W xb [v1, v2] 30
  whs : WhysIs W v1 L
  rst : Ints W v2 R
theorem Sp41.on {w W W' : World} {p : GP} {vn vs vr vm vS : Value} {m : List Int} {xb : Nat} {v1 v2 : Value} {L : List WY} {R : List Int} (h : Sp41 w p vn vs vr vm vS m xb v1 v2 L R W) (hb : Below W.heap.size W W') : Sp41 w p vn vs vr vm vS m xb v1 v2 L R W' :=
  ⟨h.st.on hb, h.set.below hb, h.xbx.below hb, h.whs.below hb, h.rst.below hb⟩
def SpCut (p : GP) (m R : List Int) (W5 : World) (s : Value) (wx : World) : Prop := ∃ a c, ∃ l : List WY, s = .slice a l.length c ∧ WhysIs wx (.slice a l.length c) l ∧ chkX p m ⟨l, R⟩ = false ∧ l.length ≤ 500 ∧ Below W5.heap.size W5 wx
def spΦ : Nat → List Value → Value → Nat → Nat → World → Prop := fun _ _ v _ _ _ => ∃ vo, v = .tuple #[vo, .int .i64 2]
set_option maxHeartbeats 8000000 in
set_option maxRecDepth 100000 in
theorem espoilt_any (v : Value) (p : GP) (bits way at' : Int) (w : World) (h : ProgIs w v p) (hway : 0 ≤ way ∧ way ≤ 255) (hat : 0 ≤ at' ∧ at' ≤ 255) :
    Calls Tryz.prog 4 #[v, .int .u16 bits, .int .u8 way, .int .u8 at'] w fun e w' => e = .returned (.bool true) ∧ Below w.heap.size w w' := by
  have h0 := h
  obtain ⟨vn, vs, vr, vm, rfl, hps⟩ := h
  have hIn := hps.n
  unfold InI at hIn
  obtain ⟨a4, c4, rfl, -, hl4, -, -⟩ := hps.rules.form
  have HE0 := Lib.hid (E41.start h0)
  have kx0 := HE0.out.box.cell
  clear h0 hps
  go_enter Tryz.func4, Tryz.ntmps4
  go_upto_region 1 with fail
  generalize w.alloc (.cells #[.int .i64 p.n, vn, vs, .slice a4 p.rules.length c4, vm] 27) = W0 at *
  cases hf : few17B p with
  | false =>
    have HFW := Lib.hid hf
    clear hf
    go_wp2_with (first | (go_at_call 12; (with_reducible refine (awake41_any _).mono ?_); rintro e w9 ⟨rfl, hb9⟩; have HE9 := Lib.hid (HE1.out.on hb9); clear hb9) | (go_at_call 11; (with_reducible refine (few17_any _ p _ HE0.out.prog).mono ?_); rintro e w1 ⟨h1, hb1⟩; rw [HFW.out] at h1; subst h1; have HE1 := Lib.hid (HE0.out.on hb1); have kx1 := HE1.out.box.cell; clear hb1))
    go_ret
    exact ⟨rfl, HE9.out.below⟩
  | true =>
    have hn12 := few17_n hf
    have HFW := Lib.hid hf
    clear hf
    by_cases hv : validE p = 0
    · have hn0 := (validP hv).n
      have hrl := (validP hv).rules
      have hveq : (validE p != 0) = false := by simp [hv]
      have HV := Lib.hid hv
      clear hv
      obtain ⟨m, hm⟩ : ∃ m, subL bits p.n.toNat = m := ⟨_, rfl⟩
      have hset := subL_set19 bits hn0.1
      have hml : m.length ≤ 12 := by have := subL_len bits p.n.toNat; rw [hm] at this; omega
      rw [hm] at hset
      have HM := Lib.hid hm
      have HSET := Lib.hid hset
      clear hm hset
      cases hmod : modelsB p m with
      | false =>
        have HE : Hid (xE p m = 410) := Lib.hid (xE_no HV.out HSET.out hmod)
        clear hmod
        go_wp2_with (first
          | (go_at_call 12; (with_reducible refine (awake41_any _).mono ?_); rintro e w9 ⟨rfl, hb9⟩; have HE9 := Lib.hid ((HE4.out.on (bal (Below.refl _ _) _)).on hb9); clear hb9)
          | (go_at_call 14; (with_reducible refine (expl_no HE.out HE3.out.prog HI3.out).mono ?_); rintro e w4 ⟨a1, c1, a2, c2, rfl, hb4⟩; have HE4 := Lib.hid (HE3.out.on hb4); have kx4 := HE4.out.box.cell; clear hb4)
          | (go_at_call 28; (with_reducible refine (subset19_int p.n bits ⟨hn0.1, by omega⟩ w2).mono ?_); rintro e w3 ⟨vS, rfl, hq, hb3⟩; rw [HM.out] at hq; obtain ⟨aS, cS, rfl⟩ := hq.slen; have HE3 := Lib.hid (HE2.out.on hb3); have kx3 := HE3.out.box.cell; have HI3 := Lib.hid (hq.ints (by omega)); clear hb3 hq) | (go_at_call 27; (with_reducible refine (valid_any _ p w1 HE1.out.prog).mono ?_); rintro e w2 ⟨rfl, hb2⟩; have HE2 := Lib.hid (HE1.out.on hb2); have kx2 := HE2.out.box.cell; clear hb2) | (go_at_call 11; (with_reducible refine (few17_any _ p _ HE0.out.prog).mono ?_); rintro e w1 ⟨h1, hb1⟩; rw [HFW.out] at h1; subst h1; have HE1 := Lib.hid (HE0.out.on hb1); have kx1 := HE1.out.box.cell; clear hb1))
        go_ret
        exact ⟨rfl, HE9.out.below⟩
      | true =>
        have HE : Hid (xE p m = 0) := Lib.hid (xE_of HV.out HSET.out hmod)
        clear hmod
        obtain ⟨L, R, hLR⟩ : ∃ L R, explX p m = ⟨L, R⟩ := ⟨_, _, rfl⟩
        have hck : chkX p m ⟨L, R⟩ = true := by rw [← hLR]; exact expl_valid HV.out HSET.out
        have hll := chk_len hck
        dsimp only at hll
        have HSW : Hid (2 ≤ L.length → ordY (ixY L (L.length - 1)) (ixY L 0) = false) := Lib.hid fun h2 => by
          have := spoil_swap (p := p) (m := m) HSET.out (by rw [hLR]; exact h2)
          rw [hLR] at this; exact this
        have HLR := Lib.hid hLR
        have HCK := Lib.hid hck
        clear hLR hck
        by_cases h0 : L.length = 0
        · have hl0 : ((L.length : Int) == 0) = true := by simp [h0]
          clear h0
          go_wp2_with (first
            | (go_at_call 12; (with_reducible refine (awake41_any _).mono ?_); rintro e w9 ⟨rfl, hb9⟩; have HE9 := Lib.hid ((HE4.out.on (bal (Below.refl _ _) _)).on hb9); clear hb9)
            | (go_at_call 14; (with_reducible refine (expl_ok HE.out HLR.out HE3.out.prog HI3.out).mono ?_); rintro e w4 ⟨a1, c1, a2, c2, rfl, -, -, hb4⟩; have HE4 := Lib.hid (HE3.out.on hb4); have kx4 := HE4.out.box.cell; clear hb4)
            | (go_at_call 28; (with_reducible refine (subset19_int p.n bits ⟨hn0.1, by omega⟩ w2).mono ?_); rintro e w3 ⟨vS, rfl, hq, hb3⟩; rw [HM.out] at hq; obtain ⟨aS, cS, rfl⟩ := hq.slen; have HE3 := Lib.hid (HE2.out.on hb3); have kx3 := HE3.out.box.cell; have HI3 := Lib.hid (hq.ints (by omega)); clear hb3 hq) | (go_at_call 27; (with_reducible refine (valid_any _ p w1 HE1.out.prog).mono ?_); rintro e w2 ⟨rfl, hb2⟩; have HE2 := Lib.hid (HE1.out.on hb2); have kx2 := HE2.out.box.cell; clear hb2) | (go_at_call 11; (with_reducible refine (few17_any _ p _ HE0.out.prog).mono ?_); rintro e w1 ⟨h1, hb1⟩; rw [HFW.out] at h1; subst h1; have HE1 := Lib.hid (HE0.out.on hb1); have kx1 := HE1.out.box.cell; clear hb1))
          go_ret
          exact ⟨rfl, HE9.out.below⟩
        · have hl0 : ((L.length : Int) == 0) = false := by simp only [beq_eq_false_iff_ne, ne_eq]; omega
          go_upto_region 5 with (first
            | (go_at_call 14; (with_reducible refine (expl_ok HE.out HLR.out HE3.out.prog HI3.out).mono ?_); rintro e w4 ⟨a1, c1, a2, c2, rfl, hY4, hR4, hb4⟩; have HE4 := Lib.hid (HE3.out.on hb4); have kx4 := HE4.out.box.cell; have HI4 := Lib.hid (HI3.out.below hb4); have HY4 := Lib.hid (hY4.whys (by omega)); have HR4 := Lib.hid (hR4.ints (by omega)); clear hb4 hY4 hR4)
            | (go_at_call 28; (with_reducible refine (subset19_int p.n bits ⟨hn0.1, by omega⟩ w2).mono ?_); rintro e w3 ⟨vS, rfl, hq, hb3⟩; rw [HM.out] at hq; obtain ⟨aS, cS, rfl⟩ := hq.slen; have HE3 := Lib.hid (HE2.out.on hb3); have kx3 := HE3.out.box.cell; have HI3 := Lib.hid (hq.ints (by omega)); clear hb3 hq) | (go_at_call 27; (with_reducible refine (valid_any _ p w1 HE1.out.prog).mono ?_); rintro e w2 ⟨rfl, hb2⟩; have HE2 := Lib.hid (HE1.out.on hb2); have kx2 := HE2.out.box.cell; clear hb2) | (go_at_call 11; (with_reducible refine (few17_any _ p _ HE0.out.prog).mono ?_); rintro e w1 ⟨h1, hb1⟩; rw [HFW.out] at h1; subst h1; have HE1 := Lib.hid (HE0.out.on hb1); have kx1 := HE1.out.box.cell; clear hb1))
          have hal := bal (Below.refl w4.heap.size w4) (.cells #[.slice a1 L.length c1, .slice a2 R.length c2] 30)
          have HS5 : Hid (Sp41 w p vn vs (.slice a4 p.rules.length c4) vm (.slice aS m.length cS) m w4.heap.size (.slice a1 L.length c1) (.slice a2 R.length c2) L R (w4.alloc (.cells #[.slice a1 L.length c1, .slice a2 R.length c2] 30))) := Lib.hid ⟨HE4.out.on hal, HI4.out.below hal, Blk.new _ _ _, HY4.out.below hal, HR4.out.below hal⟩
          have kx5 := HS5.out.st.box.cell
          have ky5 := HS5.out.xbx.cell
          have hxb := HS5.out.xbx.lt
          clear hal kx0 kx1 kx2 kx3 kx4
          generalize w4.alloc (.cells #[.slice a1 L.length c1, .slice a2 R.length c2] 30) = W5 at *
          generalize w4.heap.size = xb at *
          obtain ⟨t, htm⟩ : ∃ t, at'.tmod (L.length : Int) = t := ⟨_, rfl⟩
          have ht1 : 0 ≤ t := by rw [← htm]; exact Int.tmod_nonneg _ hat.1
          have ht2 : t < L.length := by rw [← htm]; exact Int.tmod_lt_of_pos _ (by omega)
          obtain ⟨k, rfl⟩ : ∃ k : Nat, t = k := ⟨t.toNat, by omega⟩
          have hkL : k < L.length := by omega
          clear ht1 ht2
          obtain ⟨q, hq⟩ : ∃ q, way.tmod 6 = q := ⟨_, rfl⟩
          have hq6 : 0 ≤ q ∧ q < 6 := by
            have h1 := Int.tmod_nonneg (6 : Int) hway.1
            have h2 := Int.tmod_lt_of_pos way (show (0 : Int) < 6 by decide)
            omega
          go_upto_block 0 with (at_builtin; refine wpList_cloneY rfl _ _ rfl _ L rfl rfl HS5.out.whs (by omega) (by omega) ?_; intro g cap w8 hm8 hb8; have HM8 := Lib.hid hm8; have HS8 := Lib.hid (HS5.out.on hb8); have HB8 := Lib.hid hb8; clear hm8 hb8)
          obtain ⟨D, hgl, hD, hcap, hcm, hDl, hrow⟩ := HM8.out.block (by omega)
          have HD := Lib.hid hD
          have HROW := Lib.hid hrow
          have HLY : Hid (∀ y ∈ L, YI y) := Lib.hid HM8.out.2
          have kf := hD.free
          have hgn := hD.lt
          have kx8 := HS8.out.st.box.cell
          have ky8 := HS8.out.xbx.cell
          have hL9 : L.length ≤ 12 := by omega
          have c00 : w8.cell? ⟨g, 0, none⟩ = some (.int .i64 (ixY L 0).atom) := (hD.cell _).trans (hrow 0 (by omega) 0 (by decide))
          have c01 : w8.cell? ⟨g, 1, none⟩ = some (.int .i64 (ixY L 0).rule) := (hD.cell _).trans (hrow 0 (by omega) 1 (by decide))
          have c02 : w8.cell? ⟨g, 2, none⟩ = some (.int .i64 (ixY L 0).level) := (hD.cell _).trans (hrow 0 (by omega) 2 (by decide))
          have ck0 : w8.cell? ⟨g, k * 3, none⟩ = some (.int .i64 (ixY L k).atom) := (hD.cell _).trans (hrow k hkL 0 (by decide))
          have ck1 : w8.cell? ⟨g, k * 3 + 1, none⟩ = some (.int .i64 (ixY L k).rule) := (hD.cell _).trans (hrow k hkL 1 (by decide))
          have cl0 : w8.cell? ⟨g, (L.length - 1) * 3, none⟩ = some (.int .i64 (ixY L (L.length - 1)).atom) := (hD.cell _).trans (hrow (L.length - 1) (by omega) 0 (by decide))
          have cl1 : w8.cell? ⟨g, (L.length - 1) * 3 + 1, none⟩ = some (.int .i64 (ixY L (L.length - 1)).rule) := (hD.cell _).trans (hrow (L.length - 1) (by omega) 1 (by decide))
          have cl2 : w8.cell? ⟨g, (L.length - 1) * 3 + 2, none⟩ = some (.int .i64 (ixY L (L.length - 1)).level) := (hD.cell _).trans (hrow (L.length - 1) (by omega) 2 (by decide))
          have HYL := Lib.hid (HLY.out _ (ixY_mem0 (show L.length - 1 < L.length by omega)))
          have HYK := Lib.hid (HLY.out _ (ixY_mem0 hkL))
          have HY0 := Lib.hid (HLY.out _ (ixY_mem0 (show 0 < L.length by omega)))
          have HHP : Hid (∀ o u, Below W5.heap.size W5 (w8.setCell ⟨g, o, none⟩ u)) := Lib.hid fun o u => HB8.out.setCell hgl u
          clear hD hrow kx5 ky5
          by_cases h51 : q = 5 ∧ L.length = 1
          · obtain ⟨rfl, h1⟩ := h51
            have h1q : ((L.length : Int) == 1) = true := by simp [h1]
            go_wp2_with (go_at_call 12; (with_reducible refine (awake41_any _).mono ?_); rintro e w9 ⟨rfl, hb9⟩; have HE9 := Lib.hid (HS8.out.st.on hb9); clear hb9)
            go_ret
            exact ⟨rfl, HE9.out.below⟩
          go_cut [13] from 64 to 130 (fun s wx => SpCut p m R W5 s wx)
          case first =>
            rcases (show q = 0 ∨ q = 1 ∨ q = 2 ∨ q = 3 ∨ q = 4 ∨ q = 5 by omega) with rfl | rfl | rfl | rfl | rfl | rfl
            · have HEL : Hid (InI (ixY L (L.length - 1)).atom ∧ InI (ixY L (L.length - 1)).rule) := Lib.hid ⟨HYL.out.1, HYL.out.2.1⟩
              generalize ixY L (L.length - 1) = yl at *
              go_wp2_with (at_builtin; refine wpList_appendY rfl _ _ rfl W5.heap.size w8.heap.size (.slice (some ⟨g, 0, none⟩) L.length cap) _ L [yl] rfl rfl (HM8.out.below (bal (Below.refl _ _) _)) (MineY.one w8 HYL.out) (by simp) (by simp; omega) (by have := HB8.out.size; simp; omega) ?_; intro g2 cap2 w9 hm9 hg9; have HM9 := Lib.hid hm9; have HB9 : Hid (Below W5.heap.size W5 w9) := Lib.hid ((bal HB8.out _).grown hg9 (by have := HB8.out.size; simp; omega) fun k2 e2 => by (have : g = k2 := by simpa [Value.ownBlock] using e2); omega); clear hm9 hg9)
              go_meet
              case rel => exact ⟨some ⟨g2, 0, none⟩, cap2, L ++ [yl], by rw [List.length_append]; rfl, by rw [List.length_append]; exact HM9.out.whys (by simp; omega), spoil_len HCK.out (by simp), by simp; omega, HB9.out⟩
            · go_wp2_with fail
              go_meet
              case rel => exact ⟨_, _, L.set k ⟨p.n + 1, (ixY L k).rule, (ixY L k).level⟩, by rw [List.length_set], by rw [List.length_set]; exact HROW.out.put (j := 0) HD.out HLY.out hcap hcm (by omega) hkL (by decide) rfl (fun q h1 h2 => by rcases (show q = 1 ∨ q = 2 by omega) with rfl | rfl <;> rfl) ⟨by show InI (p.n + 1); unfold InI; omega, HYK.out.2⟩, spoil_rng (i := k) (by rw [List.length_set]; exact hkL) (by rw [ixY_setY hkL, if_pos rfl]; unfold rngY; rw [decide_eq_false (show ¬ (p.n + 1 ≤ p.n) by omega)]; simp), by rw [List.length_set]; omega, HHP.out _ _⟩
            · by_cases hk1 : k + 1 < L.length
              · go_upto_region 18 with fail
                clear c00 c01 c02 ck0 ck1 cl0 cl1 cl2
                refine wp_region_tail' 8 (fun _ => True) (fun _ _ _ _ _ _ => False) (fun _ => false) (by kernel_rfl) (by kernel_rfl) (by kernel_rfl) (fun _ _ => trivial) (fun _ _ _ _ _ _ _ h _ => h) ?_
                simp only [List.take_succ_cons, List.take_zero, List.drop_succ_cons, List.drop_zero]
                iterate 8 (refine walkP_head (by kernel_rfl) rfl rfl rfl (fun K hK => ?_); go_big_quiet_op; refine hK _ ?_; clear hK K)
                intro wx hbx hF hI hP
                clear hF hI hP
                refine ⟨rfl, rfl, ?_⟩
                refine wp_growYW _ _ rfl g k (L.length - (k + 1)) (.slice (some ⟨g, (k + 1) * 3, none⟩) (L.length - (k + 1)) (cap - (k + 1))) (L.take k) (L.drop (k + 1)) ?_ ?_ ?_ ?_ ?_ ?_ ?_ ?_ ?_ ?_
                · rw [List.length_take]; omega
                · rw [List.length_drop]
                · rfl
                · rfl
                · intro i hi
                  have hi2 : i < k := by rw [List.length_take] at hi; omega
                  have hDx := (HD.out.below hbx).cell
                  have hr := HROW.out i (by omega)
                  rw [ixY_take hi2]
                  refine ⟨(hDx _).trans ?_, (hDx _).trans ?_, (hDx _).trans ?_⟩
                  · rw [Nat.zero_add]; exact hr 0 (by decide)
                  · rw [Nat.zero_add]; exact hr 1 (by decide)
                  · rw [Nat.zero_add]; exact hr 2 (by decide)
                · exact fun q hq => HLY.out q (List.mem_of_mem_take hq)
                · exact HROW.out.part (HD.out.below hbx) HLY.out (List.length_drop ..) (fun i hi => ⟨by omega, ixY_drop _ _ _⟩) (by omega) (by omega) (by omega)
                · rw [List.length_drop]; omega
                · rw [List.length_drop, List.length_take]; omega
                · intro cap2 w9 hm9 hb9
                  have hs9 := Below.size hb9
                  have hlen2 : (L.take k ++ L.drop (k + 1)).length = k + (L.length - (k + 1)) := by rw [List.length_append, List.length_take, List.length_drop]; omega
                  have HW9 : Hid (WhysIs w9 (.slice (some ⟨wx.heap.size, 0, none⟩) (k + (L.length - (k + 1))) cap2) (L.take k ++ L.drop (k + 1))) := Lib.hid (by have := hm9.whys (by omega); exact this)
                  have HB9 : Hid (Below W5.heap.size W5 w9) := Lib.hid (bon (bon HB8.out hbx) hb9)
                  have HL2 := Lib.hid hlen2
                  clear hm9 hb9 hlen2
                  refine ⟨trivial, rfl, rfl, ?_⟩
                  go_simp
                  apply (show ∀ (a' : Act) (w' : World), _root_.Go.Met _ a' w' → _ from by assumption)
                  go_meet
                  case rel => exact ⟨some ⟨wx.heap.size, 0, none⟩, cap2, L.take k ++ L.drop (k + 1), by rw [HL2.out], by rw [HL2.out]; exact HW9.out, spoil_len HCK.out (by show _ ≠ L.length; rw [HL2.out]; omega), by rw [HL2.out]; omega, HB9.out⟩
              · go_upto_region 18 with fail
                clear c00 c01 c02 ck0 ck1 cl0 cl1 cl2
                refine wp_region_tail' 8 (fun _ => True) (fun _ _ _ _ _ _ => False) (fun _ => false) (by kernel_rfl) (by kernel_rfl) (by kernel_rfl) (fun _ _ => trivial) (fun _ _ _ _ _ _ _ h _ => h) ?_
                simp only [List.take_succ_cons, List.take_zero, List.drop_succ_cons, List.drop_zero]
                iterate 8 (refine walkP_head (by kernel_rfl) rfl rfl rfl (fun K hK => ?_); go_big_quiet_op; refine hK _ ?_; clear hK K)
                intro wx hbx hF hI hP
                clear hF hI hP
                refine ⟨rfl, rfl, ?_⟩
                refine wp_appendNoneY _ _ rfl ⟨g, 0, none⟩ (if cap = k + 1 then some ⟨g, 0, none⟩ else some ⟨g, (k + 1) * 3, none⟩) k k (L.length - (k + 1)) (cap - (k + 1)) (by split <;> exact ⟨_, rfl⟩) (by omega) (Nat.le_refl _) rfl rfl ?_
                have HWX : Hid (WhysIs wx (.slice (some ⟨g, 0, none⟩) k k) (L.take k)) := Lib.hid (HROW.out.part (k := 0) (HD.out.below hbx) HLY.out (by rw [List.length_take]; omega) (fun i hi => ⟨by omega, by rw [ixY_take hi, Nat.zero_add]⟩) (Nat.le_refl _) (by omega) (by omega))
                have HBX : Hid (Below W5.heap.size W5 wx) := Lib.hid (bon HB8.out hbx)
                have HLK : Hid ((L.take k).length = k) := Lib.hid (by rw [List.length_take]; omega)
                clear hbx
                refine ⟨trivial, rfl, rfl, ?_⟩
                go_simp
                apply (show ∀ (a' : Act) (w' : World), _root_.Go.Met _ a' w' → _ from by assumption)
                go_meet
                case rel => exact ⟨some ⟨g, 0, none⟩, k, L.take k, by rw [HLK.out], by rw [HLK.out]; exact HWX.out, spoil_len HCK.out (by show _ ≠ L.length; rw [HLK.out]; omega), by rw [HLK.out]; omega, HBX.out⟩
            · go_wp2_with fail
              go_meet
              case rel => exact ⟨_, _, L.set 0 ⟨(ixY L 0).atom, (ixY L 0).rule, 0⟩, by rw [List.length_set], by rw [List.length_set]; exact HROW.out.put (k := 0) (j := 2) HD.out HLY.out hcap hcm (by omega) (by omega) (by decide) rfl (fun q h1 h2 => by rcases (show q = 0 ∨ q = 1 by omega) with rfl | rfl <;> rfl) ⟨HY0.out.1, HY0.out.2.1, by show InI 0; unfold InI; decide⟩, spoil_rng (i := 0) (by rw [List.length_set]; omega) (by rw [ixY_setY (by omega), if_pos rfl]; unfold rngY; rw [decide_eq_false (show ¬ ((1 : Int) ≤ 0) by decide)]; simp), by rw [List.length_set]; omega, HHP.out _ _⟩
            · go_wp2_with fail
              go_meet
              case rel => exact ⟨_, _, L.set k ⟨(ixY L k).atom, p.rules.length, (ixY L k).level⟩, by rw [List.length_set], by rw [List.length_set]; exact HROW.out.put (j := 1) HD.out HLY.out hcap hcm (by omega) hkL (by decide) rfl (fun q h1 h2 => by rcases (show q = 0 ∨ q = 2 by omega) with rfl | rfl <;> rfl) ⟨HYK.out.1, by show InI (p.rules.length : Int); unfold InI; omega, HYK.out.2.2⟩, spoil_rng (i := k) (by rw [List.length_set]; exact hkL) (by rw [ixY_setY hkL, if_pos rfl]; unfold rngY; rw [decide_eq_false (show ¬ ((p.rules.length : Int) < p.rules.length) by omega)]; simp), by rw [List.length_set]; omega, HHP.out _ _⟩
            · have hL2 : 2 ≤ L.length := by omega
              go_upto_region 12 with fail
              go_region
              go_wp2_with fail
              go_meet
              case rel => exact ⟨some ⟨g, 0, none⟩, cap, (L.set 0 (ixY L (L.length - 1))).set (L.length - 1) (ixY L 0), by rw [List.length_set, List.length_set], by rw [List.length_set, List.length_set]; exact (HROW.out.swap (i := 0) (k := L.length - 1) HD.out HLY.out hcap hcm (by omega) (by omega) (by omega) HYL.out HY0.out).below ((Below.refl _ _).drew), spoil_ord (i := 0) (j := L.length - 1) (Nat.zero_le _) (by rw [List.length_set, List.length_set]; omega) (by rw [ixY_setY (by rw [List.length_set]; omega), if_neg (by omega), ixY_setY (by omega), if_pos rfl, ixY_setY (by rw [List.length_set]; omega), if_pos rfl]; exact HSW.out (by omega)), by rw [List.length_set, List.length_set]; omega, ((((((HHP.out _ _).setCell hgl _).setCell hgl _).setCell hgl _).setCell hgl _).setCell hgl _).drew⟩
          case rest =>
            obtain ⟨al, cl, l, rfl, hw, hno, hl5, hb⟩ := hcut
            have HNO := Lib.hid hno
            have HW := Lib.hid hw
            have HSC := Lib.hid (HS5.out.on hb)
            have HL5 : Hid ((⟨l, R⟩ : XP).whys.length ≤ 500) := Lib.hid hl5
            have HXC : Hid (ExplIs wc (.agg #[.slice al l.length cl, .slice a2 R.length c2]) ⟨l, R⟩) := Lib.hid ⟨_, _, rfl, hw, HSC.out.rst⟩
            have kxc := HSC.out.st.box.cell
            have kyc := HSC.out.xbx.cell
            clear hw hno hb kf c00 c01 c02 ck0 ck1 cl0 cl1 cl2 kx8 ky8 HHP
            generalize wc = w10 at *
            go_upto_region 24 with (go_at_call 15; (with_reducible refine (check_ok (x := ⟨l, R⟩) HE.out HNO.out HSC.out.st.prog HSC.out.set HXC.out HL5.out).mono ?_); rintro e w11 ⟨rfl, hb11⟩; have HS11 := Lib.hid (HSC.out.on hb11); have HW11 := Lib.hid (HW.out.below hb11); have kx11 := HS11.out.st.box.cell; have ky11 := HS11.out.xbx.cell; clear hb11)
            obtain ⟨a5, c5, e5, -, -, -, hc5⟩ := HS11.out.whs.form
            simp only [Value.slice.injEq] at e5
            obtain ⟨rfl, -, rfl⟩ := e5
            obtain ⟨b5, o5, rfl, hb5, hcc5⟩ := hc5 (by omega)
            obtain ⟨k50, -, -⟩ := hcc5 0 (by omega)
            have kw : ∀ e : Ext w11, e.world.cell? ⟨b5, o5, none⟩ = some (.int .i64 (ixY L 0).atom) := fun e => (bcell e.below _ _ hb5).trans (by simpa using k50)
            have hxl := HS11.out.xbx.lt
            have hpl := HS11.out.st.box.lt
            have kp : ∀ e : Ext w11, ∀ o, e.world.cell? ⟨w.heap.size, o, none⟩ = _ := fun e o => (bcell e.below _ o hpl).trans (kx11 o)
            have kq : ∀ e : Ext w11, ∀ o, e.world.cell? ⟨xb, o, none⟩ = _ := fun e o => (bcell e.below _ o hxl).trans (ky11 o)
            have HSU : Hid (∀ wa, Below w11.heap.size w11 wa → Calls Tryz.prog 16 #[.agg #[.int .i64 p.n, vn, vs, .slice a4 p.rules.length c4, vm], .slice aS m.length cS, .agg #[.slice al l.length cl, .slice a2 R.length c2], .int .i64 (ixY L 0).atom] wa fun e2 w' => ∃ vo, e2 = .returned (.tuple #[vo, .int .i64 2]) ∧ Below wa.heap.size wa w') := Lib.hid fun wa hb =>
              support_bad (x := ⟨l, R⟩) HE.out HNO.out HY0.out.1 (HS11.out.on hb).st.prog (HS11.out.on hb).set ⟨_, _, rfl, HW11.out.below hb, (HS11.out.on hb).rst⟩ HL5.out
            refine wp_region_perm' spΦ (fun i => i == 11) (by kernel_rfl) (by kernel_rfl) (by kernel_rfl) (fun _ _ _ _ _ _ _ h _ => h) ?_
            iterate 11 (refine walkP_calm rfl rfl rfl (fun K hK => ?_); go_big_quiet_op; refine hK _ ?_; clear hK K)
            refine walkP_mem rfl rfl (fun wa hba hFa => ?_) (fun v11 lo hi l11 g11 h11 => ?_)
            · go_simp
              exact (HSU.out wa hba).mono fun e w2 ⟨vo, h1, h2⟩ => ⟨_, h1, h2, vo, rfl⟩
            obtain ⟨_, vo, rfl⟩ := h11
            simp only [Act.put, List.setIfInBounds_toArray, List.set_cons_succ, List.set_cons_zero]
            iterate 5 (refine walkP_calm rfl rfl rfl (fun K hK => ?_); go_big_quiet_op; refine hK _ ?_; clear hK K)
            intro wx hbx hF hI hP
            have HE11 := Lib.hid (HS11.out.st.on hbx)
            clear hF hI hP hbx kp kq kw kx11 ky11
            go_wp2_with (go_at_call 12; (with_reducible refine (awake41_any _).mono ?_); rintro e w9 ⟨rfl, hb9⟩; have HE9 := Lib.hid (HE11.out.on hb9); clear hb9)
            go_ret
            exact ⟨rfl, HE9.out.below⟩
    · have hveq : (validE p != 0) = true := by simp [hv]
      clear hv
      go_wp2_with (first | (go_at_call 12; (with_reducible refine (awake41_any _).mono ?_); rintro e w9 ⟨rfl, hb9⟩; have HE9 := Lib.hid (HE2.out.on hb9); clear hb9) | (go_at_call 27; (with_reducible refine (valid_any _ p w1 HE1.out.prog).mono ?_); rintro e w2 ⟨rfl, hb2⟩; have HE2 := Lib.hid (HE1.out.on hb2); have kx2 := HE2.out.box.cell; clear hb2) | (go_at_call 11; (with_reducible refine (few17_any _ p _ HE0.out.prog).mono ?_); rintro e w1 ⟨h1, hb1⟩; rw [HFW.out] at h1; subst h1; have HE1 := Lib.hid (HE0.out.on hb1); have kx1 := HE1.out.box.cell; clear hb1))
      go_ret
      exact ⟨rfl, HE9.out.below⟩
theorem espoilt_law {W : World} {vp : Value} {p : GP} (hP : ProgIs W vp p) (x : Int) (_hx : (Lit.int .u16 x).wf = true) (y : Int) (hy : (Lit.int .u8 y).wf = true) (z : Int) (hz : (Lit.int .u8 z).wf = true) :
    Calls Tryz.prog 4 #[vp, .int .u16 x, .int .u8 y, .int .u8 z] W fun e W' => e = .returned (.bool true) ∧ Below W.heap.size W W' :=
  espoilt_any vp p x y z W hP (bounds_u8 hy) (bounds_u8 hz)
end Go.Proofs.YtfajkmmmmmfhiaaGreatDoor
