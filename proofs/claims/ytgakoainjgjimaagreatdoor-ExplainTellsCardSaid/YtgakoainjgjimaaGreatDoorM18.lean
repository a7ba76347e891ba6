/- My texts Open, Lw26, Sq41, Mine, RowR, Rdc1, Rdc2, Rdc3, Rdc5, Rdc6, Lv41, Uv41, Rg41i, Rg41b, Rg41d, Rg41e, merged. -/
import Derived.Test.YtgakoainjgjimaaGreatDoorM00
import Derived.Test.YtgakoainjgjimaaGreatDoorProg
import Derived.WalkKit
import Derived.Lib.Hide
import Derived.Deep.QuietTactic
import Derived.BigQuiet
import Derived.WalkSpells
import Derived.Lib.SliceRun
import Derived.MapKept
import Derived.Maps.OwnSet
import Derived.Maps.OwnOps
import Derived.ProofKit
import Derived.OpenShut
import Derived.ChangeArms
import Derived.SizedLaws
import Derived.Test.YtgakoainjgjimaaGreatDoorM17
import Derived.Test.YtgakoainjgjimaaGreatDoorM16
import Derived.Test.YtgakoainjgjimaaGreatDoorM04
import Derived.Test.YtgakoainjgjimaaGreatDoorM03
import Derived.Test.YtgakoainjgjimaaGreatDoorM02
import Derived.Test.YtgakoainjgjimaaGreatDoorM01
import Derived.Deep.AppendLies
import Derived.Lib.Bytealg
import Derived.Test.YtgakoainjgjimaaGreatDoorM12
import Derived.Test.YtgakoainjgjimaaGreatDoorM09
import Derived.Deep.DeepCutAuto
import Derived.Test.YtgakoainjgjimaaGreatDoorM06
import Derived.Test.YtgakoainjgjimaaGreatDoorM05
import Derived.Laws.EntriesVeiled
import Derived.Deep.RegionWith
import Derived.RangeFuncNested
import Derived.RangeFuncBound
import Derived.RangeFuncCalls
import Derived.RangeFuncLeaves
import Derived.OwnWalkIn
import Derived.TacticsInMore
import Derived.LoopNIn
import Derived.LoopIn
import Derived.Stop.RegionWithIn
import Derived.Shelf.Abstract
import Derived.Deep.OwnRows
import Derived.Test.YtgakoainjgjimaaGreatDoorM14
import Derived.Test.YtgakoainjgjimaaGreatDoorM07
import Derived.Shelf.Sort.Plain
import Derived.Shelf.Slices.CompactI
import Derived.Shelf.Slices.In.SortNone
import Derived.Shelf.Strconv.Itoa3
import Derived.Shelf.Strings.BuilderK
import Derived.Shelf.Slices.SearchI
import Derived.Shelf.Slices.Empties
import Derived.Test.YtgakoainjgjimaaGreatDoorM11
import Derived.Sort.QuietThIn
import Derived.Maps.RangeWalk
import Derived.Lib.SlicesCompact
import Derived.Sort.OwnSortedInts
import Derived.RangeFuncBox
import Derived.Maps.OwnIn
import Derived.Lib.RowBridge
import Derived.Deep.AppendSrc
import Derived.Deep.DeepMust
import Derived.Test.YtgakoainjgjimaaGreatDoorM15
import Derived.Test.YtgakoainjgjimaaGreatDoorM13
import Derived.Test.YtgakoainjgjimaaGreatDoorM10
import Derived.Test.YtgakoainjgjimaaGreatDoorM08
import Derived.Deep.LoopGhost
import Derived.Deep.DrawnRows
import Derived.Deep.RegionHeld3
import Derived.Laws.ResultCell
import Derived.Laws.Rows
import Derived.Deep.RegionLaw
import Derived.Lib.ItoaNum
import Derived.Sort.CutIn
import Derived.Laws.IdiomStrings

namespace Go.Proofs.YtgakoainjgjimaaGreatDoor
open Go.RowKit
theorem list_of {α : Type} (d : α) {Q : Nat → α → Prop} : ∀ (n : Nat), (∀ i, i < n → ∃ x, Q i x) → ∃ l : List α, l.length = n ∧ ∀ i, i < n → Q i (l.getD i d)
  | 0, _ => ⟨[], rfl, fun i hi => absurd hi (Nat.not_lt_zero _)⟩
  | n + 1, h => by
    obtain ⟨l, hl, hq⟩ := list_of d n (fun i hi => h i (by omega))
    obtain ⟨x, hx⟩ := h n (by omega)
    refine ⟨l ++ [x], by simp [hl], fun i hi => ?_⟩
    by_cases e : i < n
    · have := hq i e
      rw [List.getD_eq_getElem?_getD, List.getElem?_append_left (by omega), ← List.getD_eq_getElem?_getD]
      exact this
    · obtain rfl : i = n := by omega
      rw [List.getD_eq_getElem?_getD, List.getElem?_append_right (by omega)]
      simp [hl, hx]
section
variable {H : Type} {enc : TypeId × Value → H} {P : Program} {w : World}
def Reads (enc : TypeId × Value → H) (P : Program) (w : World) (t : TypeId) (cs : List Value) : Prop :=
  ∃ fuel y, DataW.trod enc P w 0 (fun _ => true) true fuel t cs = some y ∧ ∀ m ∈ y.1.weights P t, m ≤ reachBytes
theorem cells_at {a : Addr} {n : Nat} {cs : List Value} (h : w.cells? 0 a n = some cs) : cs.length = n ∧ ∀ j, j < n → w.cell? (a.add j) = cs[j]? := by
  unfold World.cells? at h
  rw [if_pos (Nat.zero_le _)] at h
  refine ⟨by simpa using mapM_some_length h, fun j hj => ?_⟩
  exact mapM_some_get h j j (by simp [hj])
theorem weightsAll_mem {e : TypeId} : ∀ {l : List (DataW H)} {i : Nat} {d : DataW H}, l[i]? = some d → ∀ m ∈ d.weights P e, m ∈ DataW.weightsAll P e l
  | [], i, d, h, m, hm => by simp at h
  | x :: l, 0, d, h, m, hm => by
    simp only [List.getElem?_cons_zero, Option.some.injEq] at h
    subst h
    unfold DataW.weightsAll
    exact List.mem_append.2 (.inl hm)
  | x :: l, i + 1, d, h, m, hm => by
    simp only [List.getElem?_cons_succ] at h
    unfold DataW.weightsAll
    exact List.mem_append.2 (.inr (weightsAll_mem h m hm))
theorem open_slc {t e : TypeId} {sz byt : Nat} {cs : List Value} (ht : P.underlying t = some (.slice e)) (hc : P.cellsOf e = sz) (hs : 1 ≤ sz) (hb : P.bytesOf e = byt) (h : Reads enc P w t cs) :
    ∃ a n cap, cs = [.slice a n cap] ∧ n ≤ cap ∧ cap ≤ maxLen ∧ n * byt ≤ 140737488351232 ∧
      (0 < n → ∃ b off, a = some ⟨b, off, none⟩ ∧ b < w.heap.size ∧ ∀ i, i < n → ∃ cs', cs'.length = sz ∧ (∀ j, j < sz → w.cell? ⟨b, off + i * sz + j, none⟩ = cs'[j]?) ∧ Reads enc P w e cs') := by
  obtain ⟨fuel, y, hy, hw⟩ := h
  rcases DataW.trod_slice ht hy with ⟨rfl, rfl⟩ | ⟨a, len, cap, elems, rest, n, rfl, rfl, rfl, -, hl, hm, hlen, hel, -, -⟩
  · exact ⟨none, 0, 0, rfl, Nat.le_refl _, by unfold maxLen; omega, by omega, fun h => absurd h (Nat.lt_irrefl _)⟩
  · have hws : ∀ m, m ∈ DataW.weights P t (.slice (elems.map (·.1)) (rest.map (·.1))) ↔ m = ((elems.map (·.1)).length + (rest.map (·.1)).length) * P.bytesOf e ∨ m ∈ DataW.weightsAll P e (elems.map (·.1)) ∨ m ∈ DataW.weightsAll P e (rest.map (·.1)) := by
      intro m; simp only [DataW.weights, ht, List.mem_cons, List.mem_append]
    have hbig := hw _ ((hws _).2 (.inl rfl))
    simp only [List.length_map, hlen, hb] at hbig
    have hreach : reachBytes = 140737488351232 := by decide
    refine ⟨some a, len, cap, rfl, hl, hm, ?_, fun hp => ?_⟩
    · have : len * byt ≤ (len + rest.length) * byt := Nat.mul_le_mul_right _ (by omega)
      omega
    · obtain ⟨b, off, spot⟩ := a
      have each : ∀ i, i < len → ∃ cs' y, w.cells? 0 ((⟨b, off, spot⟩ : Addr).add (i * P.cellsOf e)) (P.cellsOf e) = some cs' ∧ DataW.trod enc P w 0 (fun _ => true) true n e cs' = some y ∧ elems[i]? = some y := fun i hi => by
        have h1 := hel i hi
        rw [List.getElem?_eq_getElem (by omega)] at h1
        obtain ⟨cs', h2, h3⟩ := Option.bind_eq_some_iff.1 h1
        exact ⟨cs', _, h2, h3, List.getElem?_eq_getElem (by omega)⟩
      have hspot : spot = none := by
        obtain ⟨cs', y, h1, -, -⟩ := each 0 hp
        rw [Nat.zero_mul, hc] at h1
        obtain ⟨h2, h3⟩ := cells_at h1
        have h4 := h3 0 (by omega)
        rw [List.getElem?_eq_getElem (by omega)] at h4
        simpa [Addr.add] using World.cell?_spot h4
      subst hspot
      have add : ∀ (x : Nat) (o : Nat), ((⟨b, x, none⟩ : Addr).add o) = ⟨b, x + o, none⟩ := fun x o => by unfold Addr.add; split <;> simp_all
      refine ⟨b, off, rfl, ?_, fun i hi => ?_⟩
      · obtain ⟨cs', y, h1, -, -⟩ := each 0 hp
        rw [Nat.zero_mul, hc] at h1
        obtain ⟨h2, h3⟩ := cells_at h1
        have h4 := h3 0 (by omega)
        rw [List.getElem?_eq_getElem (by omega)] at h4
        refine Classical.byContradiction fun hn => ?_
        have : w.heap[b]? = none := Array.getElem?_eq_none (by omega)
        simp [World.cell?, Addr.add, this] at h4
      · obtain ⟨cs', y, h1, h2, h3⟩ := each i hi
        rw [hc] at h1
        obtain ⟨h4, h5⟩ := cells_at h1
        refine ⟨cs', h4, fun j hj => ?_, n, y, h2, fun m hm => hw m ((hws m).2 (.inr (.inl ?_)))⟩
        · have := h5 j hj
          rw [add, add] at this
          exact this
        · exact weightsAll_mem (i := i) (by simp [h3]) m hm
theorem open_int1 {t : TypeId} {k : IntKind} {cs : List Value} (ht : P.underlying t = some (.int k)) (h : Reads enc P w t cs) : ∃ n, cs = [.int k n] ∧ (Lit.int k n).wf = true := by
  obtain ⟨fuel, y, hy, -⟩ := h
  obtain ⟨n, h1, -, h2⟩ := DataW.trod_int ht hy
  exact ⟨n, h1, h2⟩
theorem open_bool1 {t : TypeId} {cs : List Value} (ht : P.underlying t = some .bool) (h : Reads enc P w t cs) : ∃ b, cs = [.bool b] := by
  obtain ⟨fuel, y, hy, -⟩ := h
  obtain ⟨n, h1, -⟩ := DataW.trod_bool ht hy
  exact ⟨n, h1⟩
theorem open_str1 {t : TypeId} {cs : List Value} (ht : P.underlying t = some .string) (h : Reads enc P w t cs) : ∃ s, cs = [.string s] ∧ s.size ≤ 140737488351232 := by
  obtain ⟨fuel, y, hy, hw⟩ := h
  obtain ⟨s, h1, h2, -⟩ := DataW.trod_string ht hy
  subst h2
  refine ⟨s, h1, ?_⟩
  have := hw s.data.toList.length (by simp [DataW.weights])
  have hreach : reachBytes = 140737488351232 := by decide
  rw [hreach] at this
  simpa using this
theorem open_fld {t : TypeId} {fs : Array Field} {cs : List Value} (ht : P.underlying t = some (.struct fs)) (h : Reads enc P w t cs) {i : Nat} {f : Field} (hf : fs[i]? = some f) : cs.length = P.cellsOf t ∧ Reads enc P w f.type ((cs.drop f.offset).take (P.cellsOf f.type)) := by
  obtain ⟨fuel, y, hy, hw⟩ := h
  obtain ⟨xs, n, rfl, rfl, hl, hx, hel⟩ := DataW.trod_struct ht hy
  refine ⟨hl, n, ?_⟩
  have h1 := hel i f hf
  have hi : i < fs.size := (Array.getElem?_eq_some_iff.1 hf).1
  rw [List.getElem?_eq_getElem (by omega)] at h1
  refine ⟨_, h1, fun m hm => hw m ?_⟩
  simp only [DataW.weights, ht]
  exact DataW.weights_mem_each (j := i) (t := f.type) (d := (xs[i]'(by omega)).1) (by simp [hf]) (by simp [List.getElem?_eq_getElem (show i < xs.length by omega)]) m hm
end
theorem open_at {H : Type} {enc : TypeId × Value → H} {P : Program} {w : World} {t : TypeId} {fs : Array Field} {cs : List Value} (ht : P.underlying t = some (.struct fs)) (h : Reads enc P w t cs) (i ty off n : Nat)
    (hf : (fs[i]?).map (fun f => (f.type, f.offset)) = some (ty, off)) (hn : P.cellsOf ty = n) : Reads enc P w ty ((cs.drop off).take n) := by
  obtain ⟨f, h1, h2⟩ := Option.map_eq_some_iff.1 hf
  simp only [Prod.mk.injEq] at h2
  obtain ⟨rfl, rfl⟩ := h2
  subst hn
  exact (open_fld ht h h1).2
theorem open_len {H : Type} {enc : TypeId × Value → H} {P : Program} {w : World} {t : TypeId} {fs : Array Field} {cs : List Value} (ht : P.underlying t = some (.struct fs)) (h : Reads enc P w t cs) : cs.length = P.cellsOf t := by
  obtain ⟨fuel, y, hy, hw⟩ := h
  obtain ⟨xs, n, rfl, rfl, hl, hx, hel⟩ := DataW.trod_struct ht hy
  exact hl
section
variable {H : Type} {enc : TypeId × Value → H} {w : World}
theorem wf_i64 {n : Int} (h : (Lit.int .i64 n).wf = true) : -9223372036854775808 ≤ n ∧ n ≤ 9223372036854775807 := by
  have := bounds_i64 h; omega
theorem open_Ints {cs : List Value} (h : Reads enc Tryz.prog w 23 cs) : ∃ v l, cs = [v] ∧ Ints w v l := by
  obtain ⟨a, n, cap, rfl, h1, h2, h3, h4⟩ := open_slc (sz := 1) (byt := 8) Tryz.underlying23 (by kernel_rfl) (Nat.le_refl _) (by kernel_rfl) h
  by_cases hp : 0 < n
  · obtain ⟨b, off, rfl, hb, hel⟩ := h4 hp
    obtain ⟨l, hl, hq⟩ := list_of (0 : Int) (Q := fun i z => w.cell? ⟨b, off + i, none⟩ = some (.int .i64 z) ∧ InI z) n (fun i hi => by
      obtain ⟨cs', h5, h6, h7⟩ := hel i hi
      obtain ⟨z, rfl, hz⟩ := open_int1 Tryz.underlying3 h7
      have := h6 0 (by omega)
      simp only [Nat.mul_one, Nat.add_zero, List.getElem?_cons_zero] at this
      exact ⟨z, this, wf_i64 hz⟩)
    refine ⟨_, l, rfl, ⟨_, cap, by rw [hl], by omega, h2, by omega, fun _ => ⟨b, off, rfl, hb, fun i hi => (hq i (by omega)).1⟩⟩, fun i => ?_⟩
    by_cases hi : i < n
    · exact (hq i hi).2
    · have : ix l i = 0 := by unfold ix; rw [List.getD_eq_getElem?_getD, List.getElem?_eq_none (by omega)]; rfl
      rw [this]; omega
  · obtain rfl : n = 0 := by omega
    exact ⟨_, [], rfl, ⟨a, cap, rfl, h1, h2, by simp, fun h => absurd h (by simp)⟩, fun i => by simp [ix]⟩
theorem open_Strs {cs : List Value} (h : Reads enc Tryz.prog w 22 cs) : ∃ v l, cs = [v] ∧ Strs w v l := by
  obtain ⟨a, n, cap, rfl, h1, h2, h3, h4⟩ := open_slc (sz := 1) (byt := 16) Tryz.underlying22 (by kernel_rfl) (Nat.le_refl _) (by kernel_rfl) h
  have hempty : (ixS [] 0).size ≤ 140737488351232 := by decide
  by_cases hp : 0 < n
  · obtain ⟨b, off, rfl, hb, hel⟩ := h4 hp
    obtain ⟨l, hl, hq⟩ := list_of (⟨#[]⟩ : ByteArray) (Q := fun i z => w.cell? ⟨b, off + i, none⟩ = some (.string z) ∧ z.size ≤ 140737488351232) n (fun i hi => by
      obtain ⟨cs', h5, h6, h7⟩ := hel i hi
      obtain ⟨z, rfl, hz⟩ := open_str1 Tryz.underlying9 h7
      have := h6 0 (by omega)
      simp only [Nat.mul_one, Nat.add_zero, List.getElem?_cons_zero] at this
      exact ⟨z, this, hz⟩)
    refine ⟨_, l, rfl, ⟨_, cap, by rw [hl], by omega, h2, by omega, fun _ => ⟨b, off, rfl, hb, fun i hi => (hq i (by omega)).1⟩⟩, fun i => ?_⟩
    by_cases hi : i < n
    · exact (hq i hi).2
    · have : ixS l i = ⟨#[]⟩ := by unfold ixS; rw [List.getD_eq_getElem?_getD, List.getElem?_eq_none (by omega)]; rfl
      rw [this]; exact hempty
  · obtain rfl : n = 0 := by omega
    exact ⟨_, [], rfl, ⟨a, cap, rfl, h1, h2, by simp, fun h => absurd h (by simp)⟩, fun i => by simpa [ixS] using hempty⟩
theorem six {cs : List Value} (h : cs.length = 6) : ∃ a b c d e f, cs = [a, b, c, d, e, f] := by
  match cs, h with
  | [a, b, c, d, e, f], _ => exact ⟨a, b, c, d, e, f, rfl⟩
theorem five {cs : List Value} (h : cs.length = 5) : ∃ a b c d e, cs = [a, b, c, d, e] := by
  match cs, h with
  | [a, b, c, d, e], _ => exact ⟨a, b, c, d, e, rfl⟩
theorem three {cs : List Value} (h : cs.length = 3) : ∃ a b c, cs = [a, b, c] := by
  match cs, h with
  | [a, b, c], _ => exact ⟨a, b, c, rfl⟩
theorem cellsRule : Tryz.prog.cellsOf 64 = 6 := by kernel_rfl
theorem cellsMin : Tryz.prog.cellsOf 67 = 3 := by kernel_rfl
theorem cellsProg : Tryz.prog.cellsOf 27 = 5 := by kernel_rfl
theorem cellsI : Tryz.prog.cellsOf 3 = 1 := by kernel_rfl
theorem cellsB : Tryz.prog.cellsOf 4 = 1 := by kernel_rfl
theorem cellsIs : Tryz.prog.cellsOf 23 = 1 := by kernel_rfl
theorem cellsSs : Tryz.prog.cellsOf 22 = 1 := by kernel_rfl
theorem cellsRs : Tryz.prog.cellsOf 24 = 1 := by kernel_rfl
theorem cellsMs : Tryz.prog.cellsOf 25 = 1 := by kernel_rfl
theorem open_Rule {cs : List Value} (h : Reads enc Tryz.prog w 64 cs) : ∃ (r : GR) (vh vb vw : Value), cs = [.bool r.choice, vh, .bool r.sum, .int .i64 r.bound, vb, vw] ∧ RuleSl w r vh vb vw := by
  have hl := open_len Tryz.underlying64 h
  have f0 := open_at Tryz.underlying64 h 0 4 0 1 rfl cellsB
  have f1 := open_at Tryz.underlying64 h 1 23 1 1 rfl cellsIs
  have f2 := open_at Tryz.underlying64 h 2 4 2 1 rfl cellsB
  have f3 := open_at Tryz.underlying64 h 3 3 3 1 rfl cellsI
  have f4 := open_at Tryz.underlying64 h 4 23 4 1 rfl cellsIs
  have f5 := open_at Tryz.underlying64 h 5 23 5 1 rfl cellsIs
  rw [cellsRule] at hl
  obtain ⟨c0, c1, c2, c3, c4, c5, rfl⟩ := six hl
  simp only [List.drop_succ_cons, List.drop_zero, List.take_succ_cons, List.take_zero] at f0 f1 f2 f3 f4 f5
  obtain ⟨b0, h0⟩ := open_bool1 Tryz.underlying4 f0
  obtain ⟨v1, l1, h1, g1⟩ := open_Ints f1
  obtain ⟨b2, h2⟩ := open_bool1 Tryz.underlying4 f2
  obtain ⟨n3, h3, g3⟩ := open_int1 Tryz.underlying3 f3
  obtain ⟨v4, l4, h4, g4⟩ := open_Ints f4
  obtain ⟨v5, l5, h5, g5⟩ := open_Ints f5
  simp only [List.cons.injEq, and_true] at h0 h1 h2 h3 h4 h5
  subst h0 h1 h2 h3 h4 h5
  exact ⟨⟨b0, l1, b2, n3, l4, l5⟩, _, _, _, rfl, g1, g4, g5, wf_i64 g3⟩
theorem open_Min {cs : List Value} (h : Reads enc Tryz.prog w 67 cs) : ∃ (m : GM) (vl vw : Value), cs = [.int .i64 m.level, vl, vw] ∧ MinSl w m vl vw := by
  have hl := open_len Tryz.underlying67 h
  have f0 := open_at Tryz.underlying67 h 0 3 0 1 rfl cellsI
  have f1 := open_at Tryz.underlying67 h 1 23 1 1 rfl cellsIs
  have f2 := open_at Tryz.underlying67 h 2 23 2 1 rfl cellsIs
  rw [cellsMin] at hl
  obtain ⟨c0, c1, c2, rfl⟩ := three hl
  simp only [List.drop_succ_cons, List.drop_zero, List.take_succ_cons, List.take_zero] at f0 f1 f2
  obtain ⟨n0, h0, g0⟩ := open_int1 Tryz.underlying3 f0
  obtain ⟨v1, l1, h1, g1⟩ := open_Ints f1
  obtain ⟨v2, l2, h2, g2⟩ := open_Ints f2
  simp only [List.cons.injEq, and_true] at h0 h1 h2
  subst h0 h1 h2
  exact ⟨⟨n0, l1, l2⟩, _, _, rfl, g1, g2, wf_i64 g0⟩
theorem open_Rules {cs : List Value} (h : Reads enc Tryz.prog w 24 cs) : ∃ v l, cs = [v] ∧ RulesIs w v l := by
  obtain ⟨a, n, cap, rfl, h1, h2, h3, h4⟩ := open_slc (sz := 6) (byt := 96) Tryz.underlying24 cellsRule (by omega) (by kernel_rfl) h
  by_cases hp : 0 < n
  · obtain ⟨b, off, rfl, hb, hel⟩ := h4 hp
    obtain ⟨l, hl, hq⟩ := list_of ((default : GR), nilS, nilS, nilS) (Q := fun i (q : GR × Value × Value × Value) => (∀ j, j < 6 → w.cell? ⟨b, off + i * 6 + j, none⟩ = some (ruleCell q.1 q.2.1 q.2.2.1 q.2.2.2 j)) ∧ RuleSl w q.1 q.2.1 q.2.2.1 q.2.2.2) n (fun i hi => by
      obtain ⟨cs', h5, h6, h7⟩ := hel i hi
      obtain ⟨r, vh, vb, vw, rfl, hr⟩ := open_Rule h7
      refine ⟨(r, vh, vb, vw), fun j hj => ?_, hr⟩
      rw [h6 j hj]
      rcases (show j = 0 ∨ j = 1 ∨ j = 2 ∨ j = 3 ∨ j = 4 ∨ j = 5 by omega) with rfl | rfl | rfl | rfl | rfl | rfl <;> rfl)
    have hix : ∀ i, i < n → ixR (l.map (·.1)) i = (l.getD i (default, nilS, nilS, nilS)).1 := fun i hi => by
      simp [ixR, List.getD_eq_getElem?_getD, List.getElem?_eq_getElem (show i < l.length by omega)]
    refine ⟨_, l.map (·.1), rfl, fun i => (l.getD i (default, nilS, nilS, nilS)).2.1, fun i => (l.getD i (default, nilS, nilS, nilS)).2.2.1, fun i => (l.getD i (default, nilS, nilS, nilS)).2.2.2,
      ⟨_, cap, by rw [List.length_map, hl], by simp [hl]; omega, h2, by simp [hl]; omega, fun _ => ⟨b, off, rfl, hb, fun i hi j hj => ?_⟩⟩, fun i hi => ?_⟩
    · simp only [List.length_map, hl] at hi
      dsimp only
      rw [hix i hi]
      exact (hq i hi).1 j hj
    · simp only [List.length_map, hl] at hi
      rw [hix i hi]
      exact (hq i hi).2
  · obtain rfl : n = 0 := by omega
    exact ⟨_, [], rfl, fun _ => nilS, fun _ => nilS, fun _ => nilS, ⟨a, cap, rfl, h1, h2, by simp, fun h => absurd h (by simp)⟩, fun i hi => absurd hi (by simp)⟩
theorem open_Mins {cs : List Value} (h : Reads enc Tryz.prog w 25 cs) : ∃ v l, cs = [v] ∧ MinsIs w v l := by
  obtain ⟨a, n, cap, rfl, h1, h2, h3, h4⟩ := open_slc (sz := 3) (byt := 56) Tryz.underlying25 cellsMin (by omega) (by kernel_rfl) h
  by_cases hp : 0 < n
  · obtain ⟨b, off, rfl, hb, hel⟩ := h4 hp
    obtain ⟨l, hl, hq⟩ := list_of ((default : GM), nilS, nilS) (Q := fun i (q : GM × Value × Value) => (∀ j, j < 3 → w.cell? ⟨b, off + i * 3 + j, none⟩ = some (minCell q.1 q.2.1 q.2.2 j)) ∧ MinSl w q.1 q.2.1 q.2.2) n (fun i hi => by
      obtain ⟨cs', h5, h6, h7⟩ := hel i hi
      obtain ⟨r, vl, vw, rfl, hr⟩ := open_Min h7
      refine ⟨(r, vl, vw), fun j hj => ?_, hr⟩
      rw [h6 j hj]
      rcases (show j = 0 ∨ j = 1 ∨ j = 2 by omega) with rfl | rfl | rfl <;> rfl)
    have hix : ∀ i, i < n → ixM (l.map (·.1)) i = (l.getD i (default, nilS, nilS)).1 := fun i hi => by
      simp [ixM, List.getD_eq_getElem?_getD, List.getElem?_eq_getElem (show i < l.length by omega)]
    refine ⟨_, l.map (·.1), rfl, fun i => (l.getD i (default, nilS, nilS)).2.1, fun i => (l.getD i (default, nilS, nilS)).2.2,
      ⟨_, cap, by rw [List.length_map, hl], by simp [hl]; omega, h2, by simp [hl]; omega, fun _ => ⟨b, off, rfl, hb, fun i hi j hj => ?_⟩⟩, fun i hi => ?_⟩
    · simp only [List.length_map, hl] at hi
      dsimp only
      rw [hix i hi]
      exact (hq i hi).1 j hj
    · simp only [List.length_map, hl] at hi
      rw [hix i hi]
      exact (hq i hi).2
  · obtain rfl : n = 0 := by omega
    exact ⟨_, [], rfl, fun _ => nilS, fun _ => nilS, ⟨a, cap, rfl, h1, h2, by simp, fun h => absurd h (by simp)⟩, fun i hi => absurd hi (by simp)⟩
theorem open_Prog {cs : List Value} (h : Reads enc Tryz.prog w 27 cs) : ∃ (p : GP) (vn vs vr vm : Value), cs = [.int .i64 p.n, vn, vs, vr, vm] ∧ ProgSl w p vn vs vr vm := by
  have hl := open_len Tryz.underlying27 h
  have f0 := open_at Tryz.underlying27 h 0 3 0 1 rfl cellsI
  have f1 := open_at Tryz.underlying27 h 1 22 1 1 rfl cellsSs
  have f2 := open_at Tryz.underlying27 h 2 23 2 1 rfl cellsIs
  have f3 := open_at Tryz.underlying27 h 3 24 3 1 rfl cellsRs
  have f4 := open_at Tryz.underlying27 h 4 25 4 1 rfl cellsMs
  rw [cellsProg] at hl
  obtain ⟨c0, c1, c2, c3, c4, rfl⟩ := five hl
  simp only [List.drop_succ_cons, List.drop_zero, List.take_succ_cons, List.take_zero] at f0 f1 f2 f3 f4
  obtain ⟨n0, h0, g0⟩ := open_int1 Tryz.underlying3 f0
  obtain ⟨v1, l1, h1, g1⟩ := open_Strs f1
  obtain ⟨v2, l2, h2, g2⟩ := open_Ints f2
  obtain ⟨v3, l3, h3, g3⟩ := open_Rules f3
  obtain ⟨v4, l4, h4, g4⟩ := open_Mins f4
  simp only [List.cons.injEq, and_true] at h0 h1 h2 h3 h4
  subst h0 h1 h2 h3 h4
  exact ⟨⟨n0, l1, l2, l3, l4⟩, _, _, _, _, rfl, wf_i64 g0, g1, g2, g3, g4⟩
end
structure LwSt (w : World) (p : GP) (vn vs vr vm : Value) (W : World) : Prop where
  box : Blk W w.heap.size [.int .i64 p.n, vn, vs, vr, vm] 27
  prog : ProgIs W (.agg #[.int .i64 p.n, vn, vs, vr, vm]) p
  below : Below w.heap.size w W
theorem LwSt.on {w W W' : World} {p : GP} {vn vs vr vm : Value} (h : LwSt w p vn vs vr vm W) (hb : Below W.heap.size W W') : LwSt w p vn vs vr vm W' := ⟨h.box.below hb, h.prog.below hb, bon h.below hb⟩
theorem LwSt.alloc {w W : World} {p : GP} {vn vs vr vm : Value} (h : LwSt w p vn vs vr vm W) (o : Obj) : LwSt w p vn vs vr vm (W.alloc o) := h.on (bal (Below.refl _ _) _)
theorem LwSt.start {w : World} {p : GP} {vn vs vr vm : Value} (h : ProgIs w (.agg #[.int .i64 p.n, vn, vs, vr, vm]) p) : LwSt w p vn vs vr vm (w.alloc (.cells #[.int .i64 p.n, vn, vs, vr, vm] 27)) := by
  have hal : Below w.heap.size w (w.alloc (.cells #[.int .i64 p.n, vn, vs, vr, vm] 27)) := bal (Below.refl _ _) _
  exact ⟨Blk.new w _ _, h.below hal, hal⟩
theorem SupR.trans {p : GP} {x : XP} {a b c : Int} (h1 : SupR p x a b) (h2 : SupR p x b c) : SupR p x a c := by
  induction h2 with
  | base => exact h1
  | step hy hz _ hb hl ih => exact .step hy hz ih hb hl
attribute [local go_sem] memUpon
structure Mine (B : Nat) (v : Value) (L : List RQ) (w : World) : Prop where
  row : w.ownsRow B 64 6 v L.length (L.flatMap cells6)
  each : ∀ q ∈ L, QRow B w q.2.1 q.1.head ∧ QRow B w q.2.2.1 q.1.body ∧ QRow B w q.2.2.2 q.1.w ∧ InI q.1.bound
theorem Mine.nil (B : Nat) (w : World) : Mine B (.slice none 0 0) [] w := ⟨⟨by simp, .inl ⟨rfl, rfl⟩⟩, fun q hq => by simp at hq⟩
section
variable {B n : Nat} {xs : List Value} {v : Value} {w w' : World} {L : List RQ}
theorem QRow.rowKept {u : Value} {l : List Int} (h : QRow B w u l) (hr : w.ownsRow B 64 6 v n xs) (hg : w.grownBy w' v.ownBlock) : QRow B w' u l := by
  refine h.kept fun i hi hi2 hu => hg.block i hi2 (fun e => ?_)
  rcases hr.2 with ⟨rfl, _⟩ | ⟨g, cap, cur, rfl, hb, hgg, _⟩
  · cases e
  · simp only [Value.ownBlock, Option.some.injEq] at e
    subst e
    rcases h.2 with ⟨rfl, _⟩ | ⟨g', off, cap', cur', rfl, _, hgg', _⟩
    · cases hu
    · simp only [Value.ownBlock, Option.some.injEq] at hu
      subst hu
      rw [hgg'] at hgg
      have := Option.some.inj hgg
      injection this with _ h2 _
      revert h2; decide
theorem Mine.below (h : Mine B v L w) (hb : Below w.heap.size w w') : Mine B v L w' :=
  ⟨rowBelow h.row hb, fun q hq => let ⟨h1, h2, h3, h4⟩ := h.each q hq; ⟨h1.below hb, h2.below hb, h3.below hb, h4⟩⟩
theorem Mine.push {g cap : Nat} {q : RQ} (h : Mine B v L w) (hq : QRow B w q.2.1 q.1.head ∧ QRow B w q.2.2.1 q.1.body ∧ QRow B w q.2.2.2 q.1.w ∧ InI q.1.bound)
    (hown : w'.ownsRow B 64 6 (.slice (some ⟨g, 0, none⟩) (L.length + 1) cap) (L.length + 1) (L.flatMap cells6 ++ cells6 q)) (hg : w.grownBy w' v.ownBlock) : Mine B (.slice (some ⟨g, 0, none⟩) (L.length + 1) cap) (L ++ [q]) w' := by
  refine ⟨by simpa using hown, fun q' hq' => ?_⟩
  simp only [List.mem_append, List.mem_singleton] at hq'
  rcases hq' with hq' | rfl
  · obtain ⟨h1, h2, h3, h4⟩ := h.each q' hq'
    exact ⟨h1.rowKept h.row hg, h2.rowKept h.row hg, h3.rowKept h.row hg, h4⟩
  · obtain ⟨h1, h2, h3, h4⟩ := hq
    exact ⟨h1.rowKept h.row hg, h2.rowKept h.row hg, h3.rowKept h.row hg, h4⟩
theorem Mine.setCell (h : Mine B v L w) {b : Nat} (o : Nat) (u : Value) (hb : b < B) : Mine B v L (w.setCell ⟨b, o, none⟩ u) := by
  have hk : ∀ i, B ≤ i → (w.setCell ⟨b, o, none⟩ u).heap[i]? = w.heap[i]? := fun i hi => Below.heap_setCell _ _ _ _ (show i ≠ b by omega)
  refine ⟨⟨h.row.1, ?_⟩, fun q hq => let ⟨h1, h2, h3, h4⟩ := h.each q hq; ⟨h1.kept fun i hi _ _ => hk i hi, h2.kept fun i hi _ _ => hk i hi, h3.kept fun i hi _ _ => hk i hi, h4⟩⟩
  rcases h.row.2 with hn | ⟨g, cap, cur, e, hbg, hgg, rest⟩
  · exact .inl hn
  · exact .inr ⟨g, cap, cur, e, hbg, (hk g hbg).trans hgg, rest⟩
theorem Mine.rules (h : Mine B v L w) (l : List GR) (hl : L.map (·.1) = l) (hfit : L.length * 88 ≤ 140737488351232) (hlen : ∀ q ∈ L, q.1.head.length * 8 ≤ 140737488351232 ∧ q.1.body.length * 8 ≤ 140737488351232 ∧ q.1.w.length * 8 ≤ 140737488351232) :
    RulesAt w v l (fun i => (L.getD i default).2.1) (fun i => (L.getD i default).2.2.1) (fun i => (L.getD i default).2.2.2) := by
  have hlen' : l.length = L.length := by rw [← hl]; simp
  have hq : ∀ i, i < l.length → L.getD i default ∈ L ∧ (L.getD i default).1 = ixR l i := fun i hi => by
    have hi' : i < L.length := by omega
    have e : L.getD i default = L[i] := by simp [List.getD_eq_getElem?_getD, List.getElem?_eq_getElem hi']
    rw [e]
    refine ⟨List.getElem_mem hi', ?_⟩
    subst hl
    simp [ixR, List.getD_eq_getElem?_getD, List.getElem?_eq_getElem hi']
  refine ⟨?_, fun i hi => ?_⟩
  · rw [hlen']
    rcases h.row.2 with ⟨rfl, h0⟩ | ⟨g, cap, cur, rfl, hb, hg, hn, hm, hs, hx⟩
    · exact ⟨none, 0, by rw [h0], by omega, by unfold maxLen; omega, by omega, fun hp => by omega⟩
    · refine ⟨_, cap, rfl, hn, hm, hfit, fun _ => ⟨g, 0, rfl, (Array.getElem?_eq_some_iff.1 hg).1, fun i hi j hj => ?_⟩⟩
      have h6 := flat6 L i j hi hj
      rw [← hx, List.getElem?_take_of_lt (by omega)] at h6
      rw [cell_of_row w g (0 + i * 6 + j) cur _ (0, 0) hg, Nat.zero_add]
      have e2 := (hq i (by omega)).2
      dsimp only
      rw [← e2]
      have : cur[i * 6 + j]? = cur.toList[i * 6 + j]? := by simp
      rw [this, h6]
      rcases (show j = 0 ∨ j = 1 ∨ j = 2 ∨ j = 3 ∨ j = 4 ∨ j = 5 by omega) with rfl | rfl | rfl | rfl | rfl | rfl <;> rfl
  · obtain ⟨hm, e⟩ := hq i hi
    obtain ⟨h1, h2, h3, h4⟩ := h.each _ hm
    obtain ⟨g1, g2, g3⟩ := hlen _ hm
    rw [← e]
    exact ⟨h1.ints g1, h2.ints g2, h3.ints g3, h4⟩
end
structure MW (B H : Nat) (ar : Option Addr) (n : Nat) (L : List RQ) (w : World) : Prop where
  row : 0 < n → ∃ b off cur, ar = some ⟨b, off, none⟩ ∧ B ≤ b ∧ b < H ∧ Blk w b cur 64 ∧ ∀ i, i < n → cur[off + i * 6 + 4]? = some (L.getD i default).2.2.1 ∧ ∃ bd : Int, cur[off + i * 6 + 3]? = some (.int .i64 bd)
  body : ∀ i, i < n → ∃ a c, (L.getD i default).2.2.1 = .slice a (L.getD i default).1.body.length c ∧ (0 < (L.getD i default).1.body.length → ∃ g off cur, a = some ⟨g, off, none⟩ ∧ B ≤ g ∧ g < H ∧ Blk w g cur 3 ∧ off + (L.getD i default).1.body.length ≤ cur.length)
section
variable {B H n : Nat} {ar : Option Addr} {L : List RQ} {w w' : World}
theorem MW.below (h : MW B H ar n L w) (hb : Below w.heap.size w w') : MW B H ar n L w' :=
  ⟨fun h0 => let ⟨b, off, cur, e, h1, h2, h3, h4⟩ := h.row h0; ⟨b, off, cur, e, h1, h2, h3.below hb, h4⟩,
   fun i hi => let ⟨a, c, e, k⟩ := h.body i hi; ⟨a, c, e, fun h0 => let ⟨g, off, cur, e, h1, h2, h3, h4⟩ := k h0; ⟨g, off, cur, e, h1, h2, h3.below hb, h4⟩⟩⟩
theorem MW.at {b off k nb c : Nat} {a : Option Addr} (h : MW B H (some ⟨b, off, none⟩) n L w) (hk : k < n) (e : (L.getD k default).2.2.1 = .slice a nb c) :
    (∃ cur, Blk w b cur 64 ∧ B ≤ b ∧ b < H) ∧ w.cell? ⟨b, off + k * 6 + 4, none⟩ = some (.slice a nb c) ∧ (∃ bd : Int, w.cell? ⟨b, off + k * 6 + 3, none⟩ = some (.int .i64 bd)) ∧ w.frozen? ⟨b, off + k * 6 + 3, none⟩ = false ∧
      (0 < nb → ∃ g off2 cur2, a = some ⟨g, off2, none⟩ ∧ B ≤ g ∧ g < H ∧ Blk w g cur2 3 ∧ off2 + nb ≤ cur2.length) := by
  obtain ⟨b', off', cur, e1, h1, h2, h3, h4⟩ := h.row (by omega)
  simp only [Option.some.injEq, Addr.mk.injEq, and_true] at e1
  obtain ⟨rfl, rfl⟩ := e1
  obtain ⟨k1, bd, k2⟩ := h4 k hk
  rw [e] at k1
  obtain ⟨a', c', e', k5⟩ := h.body k hk
  rw [e] at e'
  simp only [Value.slice.injEq] at e'
  obtain ⟨rfl, rfl, rfl⟩ := e'
  exact ⟨⟨cur, h3, h1, h2⟩, (h3.cell _).trans k1, ⟨bd, (h3.cell _).trans k2⟩, h3.free _, k5⟩
end
end Go.Proofs.YtgakoainjgjimaaGreatDoor
namespace Go.Proofs.YtgakoainjgjimaaGreatDoor
open Go.RowKit
def IntsX (w0 W : World) (v : Value) (l : List Int) : Prop := Ints w0 v l ∨ (QRow w0.heap.size W v l ∧ l.length ≤ 1000000000)
theorem IntsX.own {w0 W : World} {v : Value} {l : List Int} (h : QRow w0.heap.size W v l) (hl : l.length ≤ 1000000000) : IntsX w0 W v l := .inr ⟨h, hl⟩
theorem IntsX.below {w0 W W' : World} {v : Value} {l : List Int} (h : IntsX w0 W v l) (hb : Below W.heap.size W W') : IntsX w0 W' v l := h.imp id fun h => ⟨h.1.below hb, h.2⟩
theorem IntsX.ints {w0 W : World} {v : Value} {l : List Int} (h : IntsX w0 W v l) (hb : Below w0.heap.size w0 W) : Ints W v l := h.elim (·.below hb) fun h => h.1.ints (by have := h.2; omega)
theorem IntsX.sl {w0 W : World} {v : Value} {l : List Int} (h : IntsX w0 W v l) : ∃ a c, v = .slice a l.length c := by
  rcases h with h | h
  · obtain ⟨a, c, rfl, -⟩ := h.form; exact ⟨a, c, rfl⟩
  · exact h.1.slen
def RuleX (w0 W : World) (q : RQ) : Prop := IntsX w0 W q.2.1 q.1.head ∧ IntsX w0 W q.2.2.1 q.1.body ∧ IntsX w0 W q.2.2.2 q.1.w ∧ InI q.1.bound
theorem RuleX.below {w0 W W' : World} {q : RQ} (h : RuleX w0 W q) (hb : Below W.heap.size W W') : RuleX w0 W' q := ⟨h.1.below hb, h.2.1.below hb, h.2.2.1.below hb, h.2.2.2⟩
structure RowR (w0 : World) (v : Value) (L : List RQ) (W : World) : Prop where
  row : W.ownsRow w0.heap.size 64 6 v L.length (L.flatMap cells6)
  each : ∀ q ∈ L, RuleX w0 W q
theorem RowR.nil (w0 W : World) : RowR w0 (.slice none 0 0) [] W := ⟨⟨by simp, .inl ⟨rfl, rfl⟩⟩, fun q hq => by simp at hq⟩
section
variable {w0 W W' : World} {v : Value} {L : List RQ}
theorem RowR.below (h : RowR w0 v L W) (hb : Below W.heap.size W W') : RowR w0 v L W' := ⟨rowBelow h.row hb, fun q hq => (h.each q hq).below hb⟩
theorem RowR.slen (h : RowR w0 v L W) : ∃ a c, v = .slice a L.length c := by
  rcases h.row.2 with ⟨rfl, h0⟩ | ⟨g, cap, cur, rfl, _⟩
  · rw [h0]; exact ⟨_, _, rfl⟩
  · exact ⟨_, _, rfl⟩
theorem IntsX.rowKept {u : Value} {l : List Int} (h : IntsX w0 W u l) (hr : RowR w0 v L W) (hg : W.grownBy W' v.ownBlock) : IntsX w0 W' u l := h.imp id fun h => ⟨h.1.rowKept hr.row hg, h.2⟩
theorem RuleX.rowKept {q : RQ} (h : RuleX w0 W q) (hr : RowR w0 v L W) (hg : W.grownBy W' v.ownBlock) : RuleX w0 W' q := ⟨h.1.rowKept hr hg, h.2.1.rowKept hr hg, h.2.2.1.rowKept hr hg, h.2.2.2⟩
theorem RowR.far (h : RowR w0 v L W) {b : Nat} {c : List Value} {T : TypeId} (hb : Blk W b c T) (hT : T ≠ 64) : v.ownBlock ≠ some b := fun e => by
  rcases h.row.2 with ⟨rfl, _⟩ | ⟨g, cap, cur, rfl, hg, hgg, _⟩
  · cases e
  · have : g = b := by simpa [Value.ownBlock] using e
    subst this
    unfold Blk at hb
    rw [hb] at hgg
    injection hgg with hgg
    injection hgg with _ h2 _
    exact hT h2
theorem RowR.lo (h : RowR w0 v L W) {g : Nat} (e : v.ownBlock = some g) : w0.heap.size ≤ g := by
  rcases h.row.2 with ⟨rfl, _⟩ | ⟨g', cap, cur, rfl, hb, _⟩
  · cases e
  · have : g' = g := by simpa [Value.ownBlock] using e
    omega
theorem RowR.same (h : RowR w0 v L W) (hr : ∀ i, w0.heap.size ≤ i → i < W.heap.size → v.ownBlock = some i → W'.heap[i]? = W.heap[i]?) (hq : ∀ q ∈ L, RuleX w0 W' q) : RowR w0 v L W' := by
  refine ⟨⟨h.row.1, ?_⟩, hq⟩
  rcases h.row.2 with hn | ⟨g, cap, cur, rfl, hb, hg, rest⟩
  · exact .inl hn
  · exact .inr ⟨g, cap, cur, rfl, hb, (hr g hb (Array.getElem?_eq_some_iff.1 hg).1 rfl).trans hg, rest⟩
theorem RowR.rules (h : RowR w0 v L W) (hb : Below w0.heap.size w0 W) (hfit : L.length ≤ 1000000) : RulesIs W v (L.map (·.1)) := by
  have hlen : (L.map (·.1)).length = L.length := by simp
  have hq : ∀ i, i < L.length → L.getD i default ∈ L ∧ (L.getD i default).1 = ixR (L.map (·.1)) i := fun i hi => by
    have e : L.getD i default = L[i] := by simp [List.getD_eq_getElem?_getD, List.getElem?_eq_getElem hi]
    rw [e]
    exact ⟨List.getElem_mem hi, by simp [ixR, List.getD_eq_getElem?_getD, List.getElem?_eq_getElem hi]⟩
  refine ⟨fun i => (L.getD i default).2.1, fun i => (L.getD i default).2.2.1, fun i => (L.getD i default).2.2.2, ?_, fun i hi => ?_⟩
  · rw [hlen]
    rcases h.row.2 with ⟨rfl, h0⟩ | ⟨g, cap, cur, rfl, hb, hg, hn, hm, hs, hx⟩
    · exact ⟨none, 0, by rw [h0], by omega, by unfold maxLen; omega, by omega, fun hp => by omega⟩
    · refine ⟨_, cap, rfl, hn, hm, by omega, fun _ => ⟨g, 0, rfl, (Array.getElem?_eq_some_iff.1 hg).1, fun i hi j hj => ?_⟩⟩
      have h6 := flat6 L i j hi hj
      rw [← hx, List.getElem?_take_of_lt (by omega)] at h6
      rw [cell_of_row W g (0 + i * 6 + j) cur _ (0, 0) hg, Nat.zero_add]
      have e2 := (hq i (by omega)).2
      dsimp only
      rw [← e2]
      have : cur[i * 6 + j]? = cur.toList[i * 6 + j]? := by simp
      rw [this, h6]
      rcases (show j = 0 ∨ j = 1 ∨ j = 2 ∨ j = 3 ∨ j = 4 ∨ j = 5 by omega) with rfl | rfl | rfl | rfl | rfl | rfl <;> rfl
  · rw [hlen] at hi
    obtain ⟨hm, e⟩ := hq i hi
    obtain ⟨h1, h2, h3, h4⟩ := h.each _ hm
    rw [← e]
    exact ⟨h1.ints hb, h2.ints hb, h3.ints hb, h4⟩
end
attribute [local go_sem ↓] Go.wp_at_zero Go.wp_at_succ
def zR : List Value := [.bool false, .slice none 0 0, .bool false, .int .i64 0, .slice none 0 0, .slice none 0 0]
structure PSt (r : GR) (m : List Int) (w : World) (k : Nat) (vh vb0 vw0 va vb : Value) (wx : World) : Prop where
  box : Blk wx w.heap.size [.bool r.choice, vh, .bool r.sum, .int .i64 r.bound, vb0, vw0] 64
  res : Blk wx (w.heap.size + 1) zR 64
  out : Blk wx (w.heap.size + 1 + 1) [.bool false, .slice none 0 0, .bool r.sum, .int .i64 (redAt m r k).bound, va, vb] 64
  body : QRow (w.heap.size + 1 + 1 + 1) wx va (fstL (posP r k))
  wts : QRow (w.heap.size + 1 + 1 + 1) wx vb (if r.sum then sndL (posP r k) else [])
  apart : ∀ i, va.ownBlock = some i → vb.ownBlock ≠ some i
  below : Below w.heap.size w wx
  size : w.heap.size + 1 + 1 + 1 ≤ wx.heap.size
theorem PSt.on {r : GR} {m : List Int} {w wx wy : World} {k : Nat} {vh vb0 vw0 va vb : Value} (h : PSt r m w k vh vb0 vw0 va vb wx) (hb : Below wx.heap.size wx wy) : PSt r m w k vh vb0 vw0 va vb wy :=
  ⟨h.box.below hb, h.res.below hb, h.out.below hb, h.body.below hb, h.wts.below hb, h.apart, bon h.below hb, Nat.le_trans h.size hb.size⟩
theorem pos_skip {r : GR} {k : Nat} (h : ¬ 0 < ix r.body k) : posP r (k + 1) = posP r k := by
  rw [posP, if_neg h]
theorem QRow.setFar {base : Nat} {w : World} {v : Value} {l : List Int} (h : QRow base w v l) {b : Nat} (o : Nat) (u : Value) (hb : b < base) : QRow base (w.setCell ⟨b, o, none⟩ u) v l :=
  h.kept fun i hi _ _ => Below.heap_setCell _ _ _ _ (by show i ≠ b; omega)
end Go.Proofs.YtgakoainjgjimaaGreatDoor
namespace Go.Proofs.YtgakoainjgjimaaGreatDoor
open Go.RowKit
attribute [local go_sem ↓] Go.wp_at_zero Go.wp_at_succ
theorem PSt.start (r : GR) (m : List Int) (w : World) (vh vb vw : Value) : PSt r m w 0 vh vb vw (.slice none 0 0) (.slice none 0 0) ((((w.alloc (.cells #[.bool r.choice, vh, .bool r.sum, .int .i64 r.bound, vb, vw] 64)).alloc (.cells #[.bool false, .slice none 0 0, .bool false, .int .i64 0, .slice none 0 0, .slice none 0 0] 64)).alloc (.cells #[.bool false, .slice none 0 0, .bool r.sum, .int .i64 r.bound, .slice none 0 0, .slice none 0 0] 64))) := by
  refine ⟨(by repeat first | (refine Blk.newAt _ _ _ ?_; first | rfl | (simp only [World.size_alloc]; done) | (simp only [World.size_alloc]; omega)) | refine Blk.alloc ?_ _), (by repeat first | (refine Blk.newAt _ _ _ ?_; first | rfl | (simp only [World.size_alloc]; done) | (simp only [World.size_alloc]; omega)) | refine Blk.alloc ?_ _), ?_, QRow.nil _ _, ?_, (fun i e => by cases e), (by (repeat first | exact Below.refl _ _ | (refine Below.setCell ?_ (by first | omega | (simp; done) | (simp; omega)) _) | (refine bal ?_ _))), by simp⟩
  · have e : (redAt m r 0).bound = r.bound := by unfold redAt; split <;> simp [negW]
    rw [e]; exact (by repeat first | (refine Blk.newAt _ _ _ ?_; first | rfl | (simp only [World.size_alloc]; done) | (simp only [World.size_alloc]; omega)) | refine Blk.alloc ?_ _)
  · have : (if r.sum then sndL (posP r 0) else []) = [] := by split <;> rfl
    rw [this]; exact QRow.nil _ _
theorem PSt.next {r : GR} {m : List Int} {w wx : World} {k : Nat} {vh vb0 vw0 va vb : Value} (h : PSt r m w k vh vb0 vw0 va vb wx) (h0 : ¬ 0 < ix r.body k) (hb : (redAt m r (k + 1)).bound = (redAt m r k).bound) : PSt r m w (k + 1) vh vb0 vw0 va vb wx := by
  obtain ⟨h1, h2, h3, h4, h5, h6, h7, h8⟩ := h
  have e : posP r (k + 1) = posP r k := pos_skip h0
  exact ⟨h1, h2, by rw [hb]; exact h3, by rw [e]; exact h4, by rw [e]; exact h5, h6, h7, h8⟩
theorem PSt.sub {r : GR} {m : List Int} {w wx : World} {k : Nat} {x : Int} {vh vb0 vw0 va vb : Value} (h : PSt r m w k vh vb0 vw0 va vb wx) (h0 : ¬ 0 < ix r.body k) (hb : (redAt m r (k + 1)).bound = x) :
    PSt r m w (k + 1) vh vb0 vw0 va vb (wx.setCell ⟨w.heap.size + 1 + 1, 3, none⟩ (.int .i64 x)) := by
  obtain ⟨h1, h2, h3, h4, h5, h6, h7, h8⟩ := h
  have e : posP r (k + 1) = posP r k := pos_skip h0
  refine ⟨h1.setOther _ _ (by omega), h2.setOther _ _ (by omega), ?_, ?_, ?_, h6, h7.setCell (p := ⟨w.heap.size + 1 + 1, 3, none⟩) (by show w.heap.size ≤ w.heap.size + 1 + 1; omega) _, by rw [size_set]; exact h8⟩
  · rw [hb]; exact h3.set 3 _
  · rw [e]; exact h4.setFar _ _ (by omega)
  · rw [e]; exact h5.setFar _ _ (by omega)
end Go.Proofs.YtgakoainjgjimaaGreatDoor
namespace Go.Proofs.YtgakoainjgjimaaGreatDoor
open Go.RowKit
def rowOf (rb : Nat) (w : World) : Option Nat := (w.cell? ⟨rb, 0, none⟩).bind Value.ownBlock
def CK (rb : Nat) (W W' : World) : Prop :=
  ((∀ g, rowOf rb W = some g → g < W.heap.size) → ∀ g, rowOf rb W' = some g → g < W'.heap.size) ∧
  ∀ i o, W.heap[i]? = some o → o.isCells = true → i ≠ rb → rowOf rb W ≠ some i → W'.heap[i]? = some o ∧ rowOf rb W' ≠ some i
theorem CK.trans {rb : Nat} {A B C : World} (h : CK rb A B) (k : CK rb B C) : CK rb A C :=
  ⟨fun h0 => k.1 (h.1 h0), fun i o h1 h2 h3 h4 => let ⟨h5, h6⟩ := h.2 i o h1 h2 h3 h4; k.2 i o h5 h2 h3 h6⟩
def RKp (n0 rb : Nat) (W W' : World) : Prop := Lim n0 [rb] W W' ∧ CK rb W W'
theorem rowOf_same {rb : Nat} {W W' : World} (h : W'.heap[rb]? = W.heap[rb]?) : rowOf rb W' = rowOf rb W := by
  unfold rowOf; rw [World.cell?_of_block h]
theorem RKp.trans {n0 rb : Nat} {A B C : World} (h : RKp n0 rb A B) (k : RKp n0 rb B C) : RKp n0 rb A C := ⟨h.1.trans k.1, h.2.trans k.2⟩
theorem CK.put {rb l : Nat} {W : World} {o o' : Obj} (h : W.heap[l]? = some o) (hc : o.isCells = false) (hne : l ≠ rb) : CK rb W (W.putObj l o') := by
  have hrb : (W.putObj l o').heap[rb]? = W.heap[rb]? := World.putObj_heap_other (fun e => hne e.symm)
  have hsz : (W.putObj l o').heap.size = W.heap.size := by simp [World.putObj]
  refine ⟨fun h0 g hg => ?_, fun i o1 h1 h2 h3 h4 => ⟨?_, ?_⟩⟩
  · rw [rowOf_same hrb] at hg; rw [hsz]; exact h0 g hg
  · refine (World.putObj_heap_other (fun e => ?_)).trans h1
    subst e
    rw [h] at h1
    cases h1
    rw [hc] at h2; cases h2
  · rw [rowOf_same hrb]; exact h4
theorem CK.below {rb : Nat} {W W' : World} (h : Below W.heap.size W W') (hrb : rb < W.heap.size) : CK rb W W' := by
  have hr := rowOf_same (h.block rb hrb)
  exact ⟨fun h0 g hg => by rw [hr] at hg; have := h0 g hg; have := h.size; omega, fun i o h1 h2 h3 h4 => ⟨(h.block i (Array.getElem?_eq_some_iff.1 h1).1).trans h1, by rw [hr]; exact h4⟩⟩
theorem CK.blk {rb : Nat} {W W' : World} (h : CK rb W W') {b : Nat} {c : List Value} {t : TypeId} (hb : Blk W b c t) (h1 : b ≠ rb) (h2 : rowOf rb W ≠ some b) : Blk W' b c t ∧ rowOf rb W' ≠ some b := h.2 b _ hb rfl h1 h2
theorem CK.row {rb base : Nat} {W W' : World} (h : CK rb W W') {v : Value} {l : List Int} (hq : QRow base W v l) (hrb : rb < base) (hf : ∀ i, v.ownBlock = some i → rowOf rb W ≠ some i) : QRow base W' v l ∧ ∀ i, v.ownBlock = some i → rowOf rb W' ≠ some i := by
  rcases hq.2 with ⟨rfl, rfl⟩ | ⟨g, off, cap, cur, rfl, hb, hg, r⟩
  · exact ⟨QRow.nil _ _, fun i e => by cases e⟩
  · have h1 := h.2 g _ hg rfl (by omega) (hf g rfl)
    exact ⟨⟨hq.1, .inr ⟨g, off, cap, cur, rfl, hb, h1.1, r⟩⟩, fun i e => by simp only [Value.ownBlock, Option.some.injEq] at e; subst e; exact h1.2⟩
theorem Blk.lim {n rb b : Nat} {w w' : World} {c : List Value} {t : TypeId} (h : Blk w b c t) (hl : Lim n [rb] w w') (hb : b < n) (hne : b ≠ rb) : Blk w' b c t := h.same (hl.block b hb (by simpa using hne))
theorem Blk.ne_ty {w : World} {b b' : Nat} {c c' : List Value} {t t' : TypeId} (h : Blk w b c t) (k : Blk w b' c' t') (hne : t ≠ t') : b ≠ b' := fun e => by
  subst e
  unfold Blk at h k
  rw [h] at k
  injection k with k
  injection k with _ k _
  exact hne k
theorem MapIs.ne_blk {w : World} {bm b : Nat} {g : Int → Option Value} {c : List Value} {t : TypeId} (h : MapIs (Value.int .i64) w bm g) (k : Blk w b c t) : bm ≠ b := fun e => by
  subst e
  obtain ⟨es, clock, hm, -⟩ := h
  unfold Blk at k
  rw [hm] at k
  cases k
theorem InM.lim {w w' : World} {mb rb : Nat} {m : List Int} {c : List Value} (h : InM w mb m) (hr : Blk w rb c 24) (hl : Lim w.heap.size [rb] w w') : InM w' mb m := by
  obtain ⟨b, G, h1, h2, h3⟩ := h
  refine ⟨b, G, h1.lim hl h1.lt (h1.ne_ty hr (by decide)), h2.same (hl.block b h2.lt ?_), h3⟩
  simpa using MapIs.ne_blk h2 hr
def RedR (B : Nat) (q : RQ) (W : World) : Prop := q.1.choice = false ∧ QRow B W q.2.1 q.1.head ∧ QRow B W q.2.2.1 q.1.body ∧ QRow B W q.2.2.2 q.1.w ∧ InI q.1.bound
structure ChSt (rb n1 t5 t6 : Nat) (c5 c6 : List Value) (va vb : Value) (lb lw : List Int) (wy : World) : Prop where
  row : ∀ g, rowOf rb wy = some g → g < wy.heap.size
  b5 : Blk wy t5 c5 64
  n5 : rowOf rb wy ≠ some t5
  b6 : Blk wy t6 c6 64
  n6 : rowOf rb wy ≠ some t6
  qa : QRow n1 wy va lb
  na : ∀ i, va.ownBlock = some i → rowOf rb wy ≠ some i
  qb : QRow n1 wy vb lw
  nb : ∀ i, vb.ownBlock = some i → rowOf rb wy ≠ some i
  lo : rb < n1
  l5 : rb < t5
  l6 : rb < t6
  top : n1 ≤ wy.heap.size
theorem ChSt.ck {rb n1 t5 t6 : Nat} {c5 c6 : List Value} {va vb : Value} {lb lw : List Int} {wy wz : World} (h : ChSt rb n1 t5 t6 c5 c6 va vb lb lw wy) (k : CK rb wy wz) (hz : wy.heap.size ≤ wz.heap.size) : ChSt rb n1 t5 t6 c5 c6 va vb lb lw wz := by
  have h5 := h.l5
  have h6 := h.l6
  have ht := h.top
  have e5 := k.blk h.b5 (by omega) h.n5
  have e6 := k.blk h.b6 (by omega) h.n6
  have ea := k.row h.qa h.lo h.na
  have eb := k.row h.qb h.lo h.nb
  exact ⟨k.1 h.row, e5.1, e5.2, e6.1, e6.2, ea.1, ea.2, eb.1, eb.2, h.lo, h5, h6, by omega⟩
theorem ChSt.below {rb n1 t5 t6 : Nat} {c5 c6 : List Value} {va vb : Value} {lb lw : List Int} {wy wz : World} (h : ChSt rb n1 t5 t6 c5 c6 va vb lb lw wy) (k : Below wy.heap.size wy wz) : ChSt rb n1 t5 t6 c5 c6 va vb lb lw wz :=
  h.ck (CK.below k (by have := h.lo; have := h.top; omega)) k.size
theorem QRow.one {base g : Nat} {w : World} {a : Int} (h : Blk w g [.int .i64 a] 3) (hb : base ≤ g) (ha : InI a) : QRow base w (.slice (some ⟨g, 0, none⟩) 1 1) [a] := by
  refine ⟨fun i => ?_, .inr ⟨g, 0, 1, #[.int .i64 a], rfl, hb, h, by simp, by unfold maxLen; omega, by simp, fun i hi => ?_⟩⟩
  · cases i with
    | zero => exact ha
    | succ i => simp [ix]
  · obtain rfl : i = 0 := by simp at hi; omega
    rfl
section
variable {B : Nat} {w w' : World}
theorem QRow.ownT {v : Value} {l : List Int} {row : Option Nat} (h : QRow B w v l) (hg : w.grownBy w' row) (hr : ∀ r, row = some r → ∃ o : Obj, w.heap[r]? = some o ∧ o.isCells = false) : QRow B w' v l := by
  rcases h.2 with ⟨rfl, rfl⟩ | ⟨g, off, cap, cur, rfl, hb, hc, r⟩
  · exact QRow.nil _ _
  · refine h.kept fun i _ hi e => hg.block i hi (fun e2 => ?_)
    simp only [Value.ownBlock, Option.some.injEq] at e
    subst e
    obtain ⟨o, ho, hf⟩ := hr g e2.symm
    rw [hc] at ho
    cases ho
    cases hf
theorem Blk.ownT {b : Nat} {c : List Value} {t : TypeId} {row : Option Nat} (h : Blk w b c t) (hg : w.grownBy w' row) (hr : ∀ r, row = some r → ∃ o : Obj, w.heap[r]? = some o ∧ o.isCells = false) : Blk w' b c t :=
  h.same (hg.block b h.lt (fun e2 => by
    obtain ⟨o, ho, hf⟩ := hr b e2.symm
    rw [show w.heap[b]? = _ from h] at ho
    cases ho
    cases hf))
theorem Mine.ownT {v : Value} {L : List RQ} {row : Option Nat} (h : Mine B v L w) (hg : w.grownBy w' row) (hr : ∀ r, row = some r → ∃ o : Obj, w.heap[r]? = some o ∧ o.isCells = false) : Mine B v L w' := by
  refine ⟨h.row.kept hg ?_, fun q hq => let ⟨h1, h2, h3, h4⟩ := h.each q hq; ⟨h1.ownT hg hr, h2.ownT hg hr, h3.ownT hg hr, h4⟩⟩
  rcases h.row.2 with ⟨e, _⟩ | ⟨g, cap, cur, e, _, hgg, _⟩
  · exact .inl (by rw [e]; rfl)
  · refine .inr (fun e2 => ?_)
    rw [e] at e2
    simp only [Value.ownBlock] at e2
    obtain ⟨o, ho, hf⟩ := hr g e2.symm
    rw [hgg] at ho
    cases ho
    cases hf
theorem RedR.ownT {q : RQ} {row : Option Nat} (h : RedR B q w) (hg : w.grownBy w' row) (hr : ∀ r, row = some r → ∃ o : Obj, w.heap[r]? = some o ∧ o.isCells = false) : RedR B q w' :=
  ⟨h.1, h.2.1.ownT hg hr, h.2.2.1.ownT hg hr, h.2.2.2.1.ownT hg hr, h.2.2.2.2⟩
theorem RedR.below {q : RQ} (h : RedR B q w) (hb : Below w.heap.size w w') : RedR B q w' :=
  ⟨h.1, h.2.1.below hb, h.2.2.1.below hb, h.2.2.2.1.below hb, h.2.2.2.2⟩
end
def RdI (rb B N : Nat) (w : World) (pre : List RQ) (W : World) : Prop :=
  ∃ a n c, Blk W rb [.slice a n c] 24 ∧ Mine B (.slice a n c) pre W ∧ Below N w W ∧ B ≤ W.heap.size
theorem RdI.own {rb B N Z : Nat} {w : World} (hN : N ≤ w.heap.size) (hZ : N ≤ Z) : OwnFrom Z (RdI rb B N w) := fun pre X Y row h hg hr => by
  obtain ⟨a, n, c, h1, h2, h3, h4⟩ := h
  have hr' := fun r e => (hr r e).2
  exact ⟨a, n, c, h1.ownT hg hr', h2.ownT hg hr', (ownFrom_below (β := Unit) hN hZ) () X Y row h3 hg hr, Nat.le_trans h4 hg.size⟩
structure El41 (w : World) (p : GP) (vn vs vr vm vS : Value) (m : List Int) (u1 u2 : Value) (x : XP) (xb : Nat) (v1 v2 : Value) (L : List WY) (R : List Int) (W : World) : Prop where
  st : E41 w p vn vs vr vm W
  bx : Blk W (w.heap.size + 1) [u1, u2] 30
  xis : ExplIs W (.agg #[u1, u2]) x
  set : Ints W vS m
  xbx : Blk W xb [v1, v2] 30
  whs : WhysIs W v1 L
  rst : Ints W v2 R
theorem El41.on {w W W' : World} {p : GP} {vn vs vr vm vS : Value} {m : List Int} {u1 u2 : Value} {x : XP} {xb : Nat} {v1 v2 : Value} {L : List WY} {R : List Int} (h : El41 w p vn vs vr vm vS m u1 u2 x xb v1 v2 L R W) (hb : Below W.heap.size W W') : El41 w p vn vs vr vm vS m u1 u2 x xb v1 v2 L R W' :=
  ⟨h.st.on hb, h.bx.below hb, h.xis.below hb, h.set.below hb, h.xbx.below hb, h.whs.below hb, h.rst.below hb⟩
theorem El41.xw {w W : World} {p : GP} {vn vs vr vm vS : Value} {m : List Int} {u1 u2 : Value} {x : XP} {xb : Nat} {v1 v2 : Value} {L : List WY} {R : List Int} (h : El41 w p vn vs vr vm vS m u1 u2 x xb v1 v2 L R W) : WhysIs W u1 x.whys := by
  obtain ⟨_, _, e, h1, _⟩ := h.xis
  simp only [Value.agg.injEq, Array.mk.injEq, List.cons.injEq, and_true] at e
  obtain ⟨rfl, rfl⟩ := e
  exact h1
theorem OwnL.nil (B : Nat) (w : World) : OwnL B w (.slice none 0 0) [] := ⟨⟨by simp, .inl ⟨rfl, rfl⟩⟩, fun i => by simp [ix], by simp⟩
theorem OwnL.mono {B B' : Nat} {w : World} {v : Value} {l : List Int} (h : OwnL B w v l) (hb : B' ≤ B) : OwnL B' w v l := by
  refine ⟨⟨h.1.1, ?_⟩, h.2⟩
  rcases h.1.2 with hn | ⟨g, cap, cur, rfl, hg, rest⟩
  · exact .inl hn
  · exact .inr ⟨g, cap, cur, rfl, Nat.le_trans hb hg, rest⟩
theorem SupR.in {p : GP} {x : XP} {a b : Int} (ha : a ∈ atomsY x.whys) (h : SupR p x a b) : b ∈ atomsY x.whys := by
  cases h with
  | base => exact ha
  | step hy hz _ _ _ => exact List.mem_map.2 ⟨_, hz, rfl⟩
structure Et (w : World) (pc xc : List Value) (l : List ByteArray) (vn vw vq : Value) (x : XP) (W : World) : Prop where
  pbx : Blk W w.heap.size pc 27
  xbx : Blk W (w.heap.size + 1) xc 30
  nam : Strs W vn l
  whs : WhysIs W vw x.whys
  rst : Ints W vq x.rest
  below : Below w.heap.size w W
theorem Et.on {w W W' : World} {pc xc : List Value} {l : List ByteArray} {vn vw vq : Value} {x : XP} (h : Et w pc xc l vn vw vq x W) (hb : Below W.heap.size W W') : Et w pc xc l vn vw vq x W' :=
  ⟨h.pbx.below hb, h.xbx.below hb, h.nam.below hb, h.whs.below hb, h.rst.below hb, bon h.below hb⟩
structure Ef (w : World) (n vn vs vr vm vw vq : Value) (WL : List WY) (RL : List Int) (W : World) : Prop where
  pbx : Blk W w.heap.size [n, vn, vs, vr, vm] 27
  rbx : Blk W (w.heap.size + 1) [.slice none 0 0, .slice none 0 0] 30
  obx : Blk W (w.heap.size + 2) [vw, vq] 30
  whs : MineY (w.heap.size + 3) vw WL W
  rst : QRow (w.heap.size + 3) W vq RL
  below : Below w.heap.size w W
section
variable {w W W' : World} {n vn vs vr vm vw vq : Value} {WL : List WY} {RL : List Int}
theorem Ef.on (h : Ef w n vn vs vr vm vw vq WL RL W) (hb : Below W.heap.size W W') : Ef w n vn vs vr vm vw vq WL RL W' :=
  ⟨h.pbx.below hb, h.rbx.below hb, h.obx.below hb, h.whs.below hb, h.rst.below hb, bon h.below hb⟩
theorem QRow.setT41 {B : Nat} {v : Value} {l : List Int} {b : Nat} {c : List Value} {T : TypeId} (h : QRow B W v l) (hb : Blk W b c T) (hT : T ≠ 3) (o : Nat) (u : Value) : QRow B (W.setCell ⟨b, o, none⟩ u) v l :=
  h.kept fun i _ _ e => Below.heap_setCell _ _ _ _ (fun e2 => h.far hb hT (by rw [e]; congr 1))
theorem Ef.pushR (h : Ef w n vn vs vr vm vw vq WL RL W) (hg : W.grownBy W' vq.ownBlock) {v' : Value} {RL' : List Int} (hq : QRow (w.heap.size + 3) W' v' RL') :
    Ef w n vn vs vr vm vw v' WL RL' (W'.setCell ⟨w.heap.size + 2, 1, none⟩ v') := by
  have hP : ∀ {b : Nat} {cs : List Value} {T : TypeId}, Blk W b cs T → T ≠ 3 → Blk W' b cs T := fun hb hT => hb.same (hg.block _ hb.lt fun e => h.rst.far hb hT e.symm)
  have ho := hP h.obx (by decide)
  refine ⟨(hP h.pbx (by decide)).setOther _ _ (by omega), (hP h.rbx (by decide)).setOther _ _ (by omega), ho.set 1 _, ?_, hq.setT41 ho (by decide) _ _, (h.below.grown hg h.below.size fun k e => ?_).setCell (by show w.heap.size ≤ w.heap.size + 2; omega) _⟩
  · have hw : MineY (w.heap.size + 3) vw WL W' := h.whs.same fun i _ h2 e => hg.block i h2 fun e2 => by
      rcases h.whs.1.2 with ⟨rfl, _⟩ | ⟨g, cap, cur, rfl, _, hgg, _⟩
      · cases e
      · have : g = i := by simpa [Value.ownBlock] using e
        subst this
        have hk : Blk W g cur.toList 49 := by unfold Blk; simpa using hgg
        exact h.rst.far hk (by decide) e2.symm
    exact hw.same fun i h1 _ _ => Below.heap_setCell _ _ _ _ (by show i ≠ w.heap.size + 2; omega)
  · rcases h.rst.2 with ⟨rfl, _⟩ | ⟨g, off, cap, cur, rfl, hb, _⟩
    · cases e
    · have : g = k := by simpa [Value.ownBlock] using e
      omega
end
structure Ec (w : World) (n vn vs vr vm vw vq : Value) (WL : List WY) (RL m : List Int) (vS : Value) (W : World) : Prop where
  pbx : Blk W w.heap.size [n, vn, vs, vr, vm] 27
  obx : Blk W (w.heap.size + 1) [vw, vq] 30
  whs : WhysIs W vw WL
  rst : Ints W vq RL
  set : Ints W vS m
  below : Below w.heap.size w W
theorem Ec.on {w W W' : World} {n vn vs vr vm vw vq vS : Value} {WL : List WY} {RL m : List Int} (h : Ec w n vn vs vr vm vw vq WL RL m vS W) (hb : Below W.heap.size W W') : Ec w n vn vs vr vm vw vq WL RL m vS W' :=
  ⟨h.pbx.below hb, h.obx.below hb, h.whs.below hb, h.rst.below hb, h.set.below hb, bon h.below hb⟩
structure Fd (w : World) (vw vq : Value) (WL : List WY) (W : World) : Prop where
  obx : Blk W w.heap.size [vw, vq] 30
  whs : WhysIs W vw WL
  below : Below w.heap.size w W
theorem Fd.on {w W W' : World} {vw vq : Value} {WL : List WY} (h : Fd w vw vq WL W) (hb : Below W.heap.size W W') : Fd w vw vq WL W' :=
  ⟨h.obx.below hb, h.whs.below hb, bon h.below hb⟩
end Go.Proofs.YtgakoainjgjimaaGreatDoor
