/- How the arguments of the statements read: from the claim's form to this folder's predicates. -/
import Derived.Test.YtkjpnpkmnpofgaaPool
import Derived.ProofKit
import Derived.OpenShut
import Derived.ChangeArms
import Derived.SizedLaws
namespace Go.Proofs.Ytkjpnpkmnpofgaa
open Go.RowKit

theorem list_of {α : Type} (d : α) {Q : Nat → α → Prop} : ∀ (n : Nat), (∀ i, i < n → ∃ x, Q i x) → ∃ l : List α, l.length = n ∧ ∀ i, i < n → Q i (l.getD i d)
  | 0, _ => ⟨[], rfl, fun i hi => absurd hi (Nat.not_lt_zero _)⟩
  | n + 1, h => by
    obtain ⟨l, hl, hq⟩ := list_of d n (fun i hi => h i (by omega))
    obtain ⟨x, hx⟩ := h n (by omega)
    refine ⟨l ++ [x], by simp [hl], fun i hi => ?_⟩
    by_cases e : i < n
    · have := hq i e
      rw [List.getD_eq_getElem?_getD, List.getElem?_append_left (by omega), ← List.getD_eq_getElem?_getD]
      exact this
    · obtain rfl : i = n := by omega
      rw [List.getD_eq_getElem?_getD, List.getElem?_append_right (by omega)]
      simp [hl, hx]

section
variable {H : Type} {enc : TypeId × Value → H} {P : Program} {w : World}

/-- The cells of one value in memory read as a datum whose parts are within the reach. -/
def Reads (enc : TypeId × Value → H) (P : Program) (w : World) (t : TypeId) (cs : List Value) : Prop :=
  ∃ fuel y, DataW.trod enc P w 0 (fun _ => true) true fuel t cs = some y ∧ ∀ m ∈ y.1.weights P t, m ≤ reachBytes

theorem cells_at {a : Addr} {n : Nat} {cs : List Value} (h : w.cells? 0 a n = some cs) : cs.length = n ∧ ∀ j, j < n → w.cell? (a.add j) = cs[j]? := by
  unfold World.cells? at h
  rw [if_pos (Nat.zero_le _)] at h
  refine ⟨by simpa using mapM_some_length h, fun j hj => ?_⟩
  exact mapM_some_get h j j (by simp [hj])

theorem weightsAll_mem {e : TypeId} : ∀ {l : List (DataW H)} {i : Nat} {d : DataW H}, l[i]? = some d → ∀ m ∈ d.weights P e, m ∈ DataW.weightsAll P e l
  | [], i, d, h, m, hm => by simp at h
  | x :: l, 0, d, h, m, hm => by
    simp only [List.getElem?_cons_zero, Option.some.injEq] at h
    subst h
    unfold DataW.weightsAll
    exact List.mem_append.2 (.inl hm)
  | x :: l, i + 1, d, h, m, hm => by
    simp only [List.getElem?_cons_succ] at h
    unfold DataW.weightsAll
    exact List.mem_append.2 (.inr (weightsAll_mem h m hm))

theorem open_slc {t e : TypeId} {sz byt : Nat} {cs : List Value} (ht : P.underlying t = some (.slice e)) (hc : P.cellsOf e = sz) (hs : 1 ≤ sz) (hb : P.bytesOf e = byt) (h : Reads enc P w t cs) :
    ∃ a n cap, cs = [.slice a n cap] ∧ n ≤ cap ∧ cap ≤ maxLen ∧ n * byt ≤ 140737488351232 ∧
      (0 < n → ∃ b off, a = some ⟨b, off, none⟩ ∧ b < w.heap.size ∧ ∀ i, i < n → ∃ cs', cs'.length = sz ∧ (∀ j, j < sz → w.cell? ⟨b, off + i * sz + j, none⟩ = cs'[j]?) ∧ Reads enc P w e cs') := by
  obtain ⟨fuel, y, hy, hw⟩ := h
  rcases DataW.trod_slice ht hy with ⟨rfl, rfl⟩ | ⟨a, len, cap, elems, rest, n, rfl, rfl, rfl, -, hl, hm, hlen, hel, -, -⟩
  · exact ⟨none, 0, 0, rfl, Nat.le_refl _, by unfold maxLen; omega, by omega, fun h => absurd h (Nat.lt_irrefl _)⟩
  · have hws : ∀ m, m ∈ DataW.weights P t (.slice (elems.map (·.1)) (rest.map (·.1))) ↔ m = ((elems.map (·.1)).length + (rest.map (·.1)).length) * P.bytesOf e ∨ m ∈ DataW.weightsAll P e (elems.map (·.1)) ∨ m ∈ DataW.weightsAll P e (rest.map (·.1)) := by
      intro m; simp only [DataW.weights, ht, List.mem_cons, List.mem_append]
    have hbig := hw _ ((hws _).2 (.inl rfl))
    simp only [List.length_map, hlen, hb] at hbig
    have hreach : reachBytes = 140737488351232 := by decide
    refine ⟨some a, len, cap, rfl, hl, hm, ?_, fun hp => ?_⟩
    · have : len * byt ≤ (len + rest.length) * byt := Nat.mul_le_mul_right _ (by omega)
      omega
    · obtain ⟨b, off, spot⟩ := a
      have each : ∀ i, i < len → ∃ cs' y, w.cells? 0 ((⟨b, off, spot⟩ : Addr).add (i * P.cellsOf e)) (P.cellsOf e) = some cs' ∧ DataW.trod enc P w 0 (fun _ => true) true n e cs' = some y ∧ elems[i]? = some y := fun i hi => by
        have h1 := hel i hi
        rw [List.getElem?_eq_getElem (by omega)] at h1
        obtain ⟨cs', h2, h3⟩ := Option.bind_eq_some_iff.1 h1
        exact ⟨cs', _, h2, h3, List.getElem?_eq_getElem (by omega)⟩
      have hspot : spot = none := by
        obtain ⟨cs', y, h1, -, -⟩ := each 0 hp
        rw [Nat.zero_mul, hc] at h1
        obtain ⟨h2, h3⟩ := cells_at h1
        have h4 := h3 0 (by omega)
        rw [List.getElem?_eq_getElem (by omega)] at h4
        simpa [Addr.add] using World.cell?_spot h4
      subst hspot
      have add : ∀ (x : Nat) (o : Nat), ((⟨b, x, none⟩ : Addr).add o) = ⟨b, x + o, none⟩ := fun x o => by unfold Addr.add; split <;> simp_all
      refine ⟨b, off, rfl, ?_, fun i hi => ?_⟩
      · obtain ⟨cs', y, h1, -, -⟩ := each 0 hp
        rw [Nat.zero_mul, hc] at h1
        obtain ⟨h2, h3⟩ := cells_at h1
        have h4 := h3 0 (by omega)
        rw [List.getElem?_eq_getElem (by omega)] at h4
        refine Classical.byContradiction fun hn => ?_
        have : w.heap[b]? = none := Array.getElem?_eq_none (by omega)
        simp [World.cell?, Addr.add, this] at h4
      · obtain ⟨cs', y, h1, h2, h3⟩ := each i hi
        rw [hc] at h1
        obtain ⟨h4, h5⟩ := cells_at h1
        refine ⟨cs', h4, fun j hj => ?_, n, y, h2, fun m hm => hw m ((hws m).2 (.inr (.inl ?_)))⟩
        · have := h5 j hj
          rw [add, add] at this
          exact this
        · exact weightsAll_mem (i := i) (by simp [h3]) m hm

theorem open_int1 {t : TypeId} {k : IntKind} {cs : List Value} (ht : P.underlying t = some (.int k)) (h : Reads enc P w t cs) : ∃ n, cs = [.int k n] ∧ (Lit.int k n).wf = true := by
  obtain ⟨fuel, y, hy, -⟩ := h
  obtain ⟨n, h1, -, h2⟩ := DataW.trod_int ht hy
  exact ⟨n, h1, h2⟩

theorem open_bool1 {t : TypeId} {cs : List Value} (ht : P.underlying t = some .bool) (h : Reads enc P w t cs) : ∃ b, cs = [.bool b] := by
  obtain ⟨fuel, y, hy, -⟩ := h
  obtain ⟨n, h1, -⟩ := DataW.trod_bool ht hy
  exact ⟨n, h1⟩

theorem open_str1 {t : TypeId} {cs : List Value} (ht : P.underlying t = some .string) (h : Reads enc P w t cs) : ∃ s, cs = [.string s] ∧ s.size ≤ 140737488351232 := by
  obtain ⟨fuel, y, hy, hw⟩ := h
  obtain ⟨s, h1, h2, -⟩ := DataW.trod_string ht hy
  subst h2
  refine ⟨s, h1, ?_⟩
  have := hw s.data.toList.length (by simp [DataW.weights])
  have hreach : reachBytes = 140737488351232 := by decide
  rw [hreach] at this
  simpa using this

/-- A field of a struct. -/
theorem open_fld {t : TypeId} {fs : Array Field} {cs : List Value} (ht : P.underlying t = some (.struct fs)) (h : Reads enc P w t cs) {i : Nat} {f : Field} (hf : fs[i]? = some f) : cs.length = P.cellsOf t ∧ Reads enc P w f.type ((cs.drop f.offset).take (P.cellsOf f.type)) := by
  obtain ⟨fuel, y, hy, hw⟩ := h
  obtain ⟨xs, n, rfl, rfl, hl, hx, hel⟩ := DataW.trod_struct ht hy
  refine ⟨hl, n, ?_⟩
  have h1 := hel i f hf
  have hi : i < fs.size := (Array.getElem?_eq_some_iff.1 hf).1
  rw [List.getElem?_eq_getElem (by omega)] at h1
  refine ⟨_, h1, fun m hm => hw m ?_⟩
  simp only [DataW.weights, ht]
  exact DataW.weights_mem_each (j := i) (t := f.type) (d := (xs[i]'(by omega)).1) (by simp [hf]) (by simp [List.getElem?_eq_getElem (show i < xs.length by omega)]) m hm
end

theorem open_at {H : Type} {enc : TypeId × Value → H} {P : Program} {w : World} {t : TypeId} {fs : Array Field} {cs : List Value} (ht : P.underlying t = some (.struct fs)) (h : Reads enc P w t cs) (i ty off n : Nat)
    (hf : (fs[i]?).map (fun f => (f.type, f.offset)) = some (ty, off)) (hn : P.cellsOf ty = n) : Reads enc P w ty ((cs.drop off).take n) := by
  obtain ⟨f, h1, h2⟩ := Option.map_eq_some_iff.1 hf
  simp only [Prod.mk.injEq] at h2
  obtain ⟨rfl, rfl⟩ := h2
  subst hn
  exact (open_fld ht h h1).2

theorem open_len {H : Type} {enc : TypeId × Value → H} {P : Program} {w : World} {t : TypeId} {fs : Array Field} {cs : List Value} (ht : P.underlying t = some (.struct fs)) (h : Reads enc P w t cs) : cs.length = P.cellsOf t := by
  obtain ⟨fuel, y, hy, hw⟩ := h
  obtain ⟨xs, n, rfl, rfl, hl, hx, hel⟩ := DataW.trod_struct ht hy
  exact hl

section
variable {H : Type} {enc : TypeId × Value → H} {w : World}

theorem wf_i64 {n : Int} (h : (Lit.int .i64 n).wf = true) : -9223372036854775808 ≤ n ∧ n ≤ 9223372036854775807 := by
  have := bounds_i64 h; omega
theorem wf_i8 {n : Int} (h : (Lit.int .i8 n).wf = true) : -128 ≤ n ∧ n ≤ 127 := by
  have := bounds_i8 h; omega

theorem open_Ints {cs : List Value} (h : Reads enc Try.prog w 23 cs) : ∃ v l, cs = [v] ∧ Ints w v l := by
  obtain ⟨a, n, cap, rfl, h1, h2, h3, h4⟩ := open_slc (sz := 1) (byt := 8) Try.underlying23 (by kernel_rfl) (Nat.le_refl _) (by kernel_rfl) h
  by_cases hp : 0 < n
  · obtain ⟨b, off, rfl, hb, hel⟩ := h4 hp
    obtain ⟨l, hl, hq⟩ := list_of (0 : Int) (Q := fun i z => w.cell? ⟨b, off + i, none⟩ = some (.int .i64 z) ∧ InI z) n (fun i hi => by
      obtain ⟨cs', h5, h6, h7⟩ := hel i hi
      obtain ⟨z, rfl, hz⟩ := open_int1 Try.underlying3 h7
      have := h6 0 (by omega)
      simp only [Nat.mul_one, Nat.add_zero, List.getElem?_cons_zero] at this
      exact ⟨z, this, wf_i64 hz⟩)
    refine ⟨_, l, rfl, ⟨_, cap, by rw [hl], by omega, h2, by omega, fun _ => ⟨b, off, rfl, hb, fun i hi => (hq i (by omega)).1⟩⟩, fun i => ?_⟩
    by_cases hi : i < n
    · exact (hq i hi).2
    · have : ix l i = 0 := by unfold ix; rw [List.getD_eq_getElem?_getD, List.getElem?_eq_none (by omega)]; rfl
      rw [this]; omega
  · obtain rfl : n = 0 := by omega
    exact ⟨_, [], rfl, ⟨a, cap, rfl, h1, h2, by simp, fun h => absurd h (by simp)⟩, fun i => by simp [ix]⟩

theorem open_Bytes8 {cs : List Value} (h : Reads enc Try.prog w 39 cs) : ∃ v l, cs = [v] ∧ Bytes8 w v l := by
  obtain ⟨a, n, cap, rfl, h1, h2, h3, h4⟩ := open_slc (sz := 1) (byt := 1) Try.underlying39 (by kernel_rfl) (Nat.le_refl _) (by kernel_rfl) h
  by_cases hp : 0 < n
  · obtain ⟨b, off, rfl, hb, hel⟩ := h4 hp
    obtain ⟨l, hl, hq⟩ := list_of (0 : Int) (Q := fun i z => w.cell? ⟨b, off + i, none⟩ = some (.int .i8 z) ∧ -128 ≤ z ∧ z ≤ 127) n (fun i hi => by
      obtain ⟨cs', h5, h6, h7⟩ := hel i hi
      obtain ⟨z, rfl, hz⟩ := open_int1 Try.underlying58 h7
      have := h6 0 (by omega)
      simp only [Nat.mul_one, Nat.add_zero, List.getElem?_cons_zero] at this
      exact ⟨z, this, wf_i8 hz⟩)
    refine ⟨_, l, rfl, ⟨_, cap, by rw [hl], by omega, h2, by omega, fun _ => ⟨b, off, rfl, hb, fun i hi => (hq i (by omega)).1⟩⟩, fun i => ?_⟩
    by_cases hi : i < n
    · exact (hq i hi).2
    · have : ix l i = 0 := by unfold ix; rw [List.getD_eq_getElem?_getD, List.getElem?_eq_none (by omega)]; rfl
      rw [this]; omega
  · obtain rfl : n = 0 := by omega
    exact ⟨_, [], rfl, ⟨a, cap, rfl, h1, h2, by simp, fun h => absurd h (by simp)⟩, fun i => by simp [ix]⟩

theorem open_Strs {cs : List Value} (h : Reads enc Try.prog w 22 cs) : ∃ v l, cs = [v] ∧ Strs w v l := by
  obtain ⟨a, n, cap, rfl, h1, h2, h3, h4⟩ := open_slc (sz := 1) (byt := 16) Try.underlying22 (by kernel_rfl) (Nat.le_refl _) (by kernel_rfl) h
  have hempty : (ixS [] 0).size ≤ 140737488351232 := by decide
  by_cases hp : 0 < n
  · obtain ⟨b, off, rfl, hb, hel⟩ := h4 hp
    obtain ⟨l, hl, hq⟩ := list_of (⟨#[]⟩ : ByteArray) (Q := fun i z => w.cell? ⟨b, off + i, none⟩ = some (.string z) ∧ z.size ≤ 140737488351232) n (fun i hi => by
      obtain ⟨cs', h5, h6, h7⟩ := hel i hi
      obtain ⟨z, rfl, hz⟩ := open_str1 Try.underlying9 h7
      have := h6 0 (by omega)
      simp only [Nat.mul_one, Nat.add_zero, List.getElem?_cons_zero] at this
      exact ⟨z, this, hz⟩)
    refine ⟨_, l, rfl, ⟨_, cap, by rw [hl], by omega, h2, by omega, fun _ => ⟨b, off, rfl, hb, fun i hi => (hq i (by omega)).1⟩⟩, fun i => ?_⟩
    by_cases hi : i < n
    · exact (hq i hi).2
    · have : ixS l i = ⟨#[]⟩ := by unfold ixS; rw [List.getD_eq_getElem?_getD, List.getElem?_eq_none (by omega)]; rfl
      rw [this]; exact hempty
  · obtain rfl : n = 0 := by omega
    exact ⟨_, [], rfl, ⟨a, cap, rfl, h1, h2, by simp, fun h => absurd h (by simp)⟩, fun i => by simpa [ixS] using hempty⟩

theorem six {cs : List Value} (h : cs.length = 6) : ∃ a b c d e f, cs = [a, b, c, d, e, f] := by
  match cs, h with
  | [a, b, c, d, e, f], _ => exact ⟨a, b, c, d, e, f, rfl⟩
theorem five {cs : List Value} (h : cs.length = 5) : ∃ a b c d e, cs = [a, b, c, d, e] := by
  match cs, h with
  | [a, b, c, d, e], _ => exact ⟨a, b, c, d, e, rfl⟩
theorem three {cs : List Value} (h : cs.length = 3) : ∃ a b c, cs = [a, b, c] := by
  match cs, h with
  | [a, b, c], _ => exact ⟨a, b, c, rfl⟩

theorem cellsRule : Try.prog.cellsOf 44 = 6 := by kernel_rfl
theorem cellsMin : Try.prog.cellsOf 77 = 3 := by kernel_rfl
theorem cellsProg : Try.prog.cellsOf 27 = 5 := by kernel_rfl
theorem cellsI : Try.prog.cellsOf 3 = 1 := by kernel_rfl
theorem cellsB : Try.prog.cellsOf 4 = 1 := by kernel_rfl
theorem cellsIs : Try.prog.cellsOf 23 = 1 := by kernel_rfl
theorem cellsSs : Try.prog.cellsOf 22 = 1 := by kernel_rfl
theorem cellsRs : Try.prog.cellsOf 24 = 1 := by kernel_rfl
theorem cellsMs : Try.prog.cellsOf 25 = 1 := by kernel_rfl
theorem cells8s : Try.prog.cellsOf 39 = 1 := by kernel_rfl

theorem open_Rule {cs : List Value} (h : Reads enc Try.prog w 44 cs) : ∃ (r : GR) (vh vb vw : Value), cs = [.bool r.choice, vh, .bool r.sum, .int .i64 r.bound, vb, vw] ∧ RuleSl w r vh vb vw := by
  have hl := open_len Try.underlying44 h
  have f0 := open_at Try.underlying44 h 0 4 0 1 rfl cellsB
  have f1 := open_at Try.underlying44 h 1 23 1 1 rfl cellsIs
  have f2 := open_at Try.underlying44 h 2 4 2 1 rfl cellsB
  have f3 := open_at Try.underlying44 h 3 3 3 1 rfl cellsI
  have f4 := open_at Try.underlying44 h 4 23 4 1 rfl cellsIs
  have f5 := open_at Try.underlying44 h 5 23 5 1 rfl cellsIs
  rw [cellsRule] at hl
  obtain ⟨c0, c1, c2, c3, c4, c5, rfl⟩ := six hl
  simp only [List.drop_succ_cons, List.drop_zero, List.take_succ_cons, List.take_zero] at f0 f1 f2 f3 f4 f5
  obtain ⟨b0, h0⟩ := open_bool1 Try.underlying4 f0
  obtain ⟨v1, l1, h1, g1⟩ := open_Ints f1
  obtain ⟨b2, h2⟩ := open_bool1 Try.underlying4 f2
  obtain ⟨n3, h3, g3⟩ := open_int1 Try.underlying3 f3
  obtain ⟨v4, l4, h4, g4⟩ := open_Ints f4
  obtain ⟨v5, l5, h5, g5⟩ := open_Ints f5
  simp only [List.cons.injEq, and_true] at h0 h1 h2 h3 h4 h5
  subst h0 h1 h2 h3 h4 h5
  exact ⟨⟨b0, l1, b2, n3, l4, l5⟩, _, _, _, rfl, g1, g4, g5, wf_i64 g3⟩

theorem open_Min {cs : List Value} (h : Reads enc Try.prog w 77 cs) : ∃ (m : GM) (vl vw : Value), cs = [.int .i64 m.level, vl, vw] ∧ MinSl w m vl vw := by
  have hl := open_len Try.underlying77 h
  have f0 := open_at Try.underlying77 h 0 3 0 1 rfl cellsI
  have f1 := open_at Try.underlying77 h 1 23 1 1 rfl cellsIs
  have f2 := open_at Try.underlying77 h 2 23 2 1 rfl cellsIs
  rw [cellsMin] at hl
  obtain ⟨c0, c1, c2, rfl⟩ := three hl
  simp only [List.drop_succ_cons, List.drop_zero, List.take_succ_cons, List.take_zero] at f0 f1 f2
  obtain ⟨n0, h0, g0⟩ := open_int1 Try.underlying3 f0
  obtain ⟨v1, l1, h1, g1⟩ := open_Ints f1
  obtain ⟨v2, l2, h2, g2⟩ := open_Ints f2
  simp only [List.cons.injEq, and_true] at h0 h1 h2
  subst h0 h1 h2
  exact ⟨⟨n0, l1, l2⟩, _, _, rfl, g1, g2, wf_i64 g0⟩

theorem open_Rules {cs : List Value} (h : Reads enc Try.prog w 24 cs) : ∃ v l, cs = [v] ∧ RulesIs w v l := by
  obtain ⟨a, n, cap, rfl, h1, h2, h3, h4⟩ := open_slc (sz := 6) (byt := 96) Try.underlying24 cellsRule (by omega) (by kernel_rfl) h
  by_cases hp : 0 < n
  · obtain ⟨b, off, rfl, hb, hel⟩ := h4 hp
    obtain ⟨l, hl, hq⟩ := list_of ((default : GR), nilS, nilS, nilS) (Q := fun i (q : GR × Value × Value × Value) => (∀ j, j < 6 → w.cell? ⟨b, off + i * 6 + j, none⟩ = some (ruleCell q.1 q.2.1 q.2.2.1 q.2.2.2 j)) ∧ RuleSl w q.1 q.2.1 q.2.2.1 q.2.2.2) n (fun i hi => by
      obtain ⟨cs', h5, h6, h7⟩ := hel i hi
      obtain ⟨r, vh, vb, vw, rfl, hr⟩ := open_Rule h7
      refine ⟨(r, vh, vb, vw), fun j hj => ?_, hr⟩
      rw [h6 j hj]
      rcases (show j = 0 ∨ j = 1 ∨ j = 2 ∨ j = 3 ∨ j = 4 ∨ j = 5 by omega) with rfl | rfl | rfl | rfl | rfl | rfl <;> rfl)
    have hix : ∀ i, i < n → ixR (l.map (·.1)) i = (l.getD i (default, nilS, nilS, nilS)).1 := fun i hi => by
      simp [ixR, List.getD_eq_getElem?_getD, List.getElem?_eq_getElem (show i < l.length by omega)]
    refine ⟨_, l.map (·.1), rfl, fun i => (l.getD i (default, nilS, nilS, nilS)).2.1, fun i => (l.getD i (default, nilS, nilS, nilS)).2.2.1, fun i => (l.getD i (default, nilS, nilS, nilS)).2.2.2,
      ⟨_, cap, by rw [List.length_map, hl], by simp [hl]; omega, h2, by simp [hl]; omega, fun _ => ⟨b, off, rfl, hb, fun i hi j hj => ?_⟩⟩, fun i hi => ?_⟩
    · simp only [List.length_map, hl] at hi
      dsimp only
      rw [hix i hi]
      exact (hq i hi).1 j hj
    · simp only [List.length_map, hl] at hi
      rw [hix i hi]
      exact (hq i hi).2
  · obtain rfl : n = 0 := by omega
    exact ⟨_, [], rfl, fun _ => nilS, fun _ => nilS, fun _ => nilS, ⟨a, cap, rfl, h1, h2, by simp, fun h => absurd h (by simp)⟩, fun i hi => absurd hi (by simp)⟩

theorem open_Mins {cs : List Value} (h : Reads enc Try.prog w 25 cs) : ∃ v l, cs = [v] ∧ MinsIs w v l := by
  obtain ⟨a, n, cap, rfl, h1, h2, h3, h4⟩ := open_slc (sz := 3) (byt := 56) Try.underlying25 cellsMin (by omega) (by kernel_rfl) h
  by_cases hp : 0 < n
  · obtain ⟨b, off, rfl, hb, hel⟩ := h4 hp
    obtain ⟨l, hl, hq⟩ := list_of ((default : GM), nilS, nilS) (Q := fun i (q : GM × Value × Value) => (∀ j, j < 3 → w.cell? ⟨b, off + i * 3 + j, none⟩ = some (minCell q.1 q.2.1 q.2.2 j)) ∧ MinSl w q.1 q.2.1 q.2.2) n (fun i hi => by
      obtain ⟨cs', h5, h6, h7⟩ := hel i hi
      obtain ⟨r, vl, vw, rfl, hr⟩ := open_Min h7
      refine ⟨(r, vl, vw), fun j hj => ?_, hr⟩
      rw [h6 j hj]
      rcases (show j = 0 ∨ j = 1 ∨ j = 2 by omega) with rfl | rfl | rfl <;> rfl)
    have hix : ∀ i, i < n → ixM (l.map (·.1)) i = (l.getD i (default, nilS, nilS)).1 := fun i hi => by
      simp [ixM, List.getD_eq_getElem?_getD, List.getElem?_eq_getElem (show i < l.length by omega)]
    refine ⟨_, l.map (·.1), rfl, fun i => (l.getD i (default, nilS, nilS)).2.1, fun i => (l.getD i (default, nilS, nilS)).2.2,
      ⟨_, cap, by rw [List.length_map, hl], by simp [hl]; omega, h2, by simp [hl]; omega, fun _ => ⟨b, off, rfl, hb, fun i hi j hj => ?_⟩⟩, fun i hi => ?_⟩
    · simp only [List.length_map, hl] at hi
      dsimp only
      rw [hix i hi]
      exact (hq i hi).1 j hj
    · simp only [List.length_map, hl] at hi
      rw [hix i hi]
      exact (hq i hi).2
  · obtain rfl : n = 0 := by omega
    exact ⟨_, [], rfl, fun _ => nilS, fun _ => nilS, ⟨a, cap, rfl, h1, h2, by simp, fun h => absurd h (by simp)⟩, fun i hi => absurd hi (by simp)⟩

theorem open_Prog {cs : List Value} (h : Reads enc Try.prog w 27 cs) : ∃ (p : GP) (vn vs vr vm : Value), cs = [.int .i64 p.n, vn, vs, vr, vm] ∧ ProgSl w p vn vs vr vm := by
  have hl := open_len Try.underlying27 h
  have f0 := open_at Try.underlying27 h 0 3 0 1 rfl cellsI
  have f1 := open_at Try.underlying27 h 1 22 1 1 rfl cellsSs
  have f2 := open_at Try.underlying27 h 2 23 2 1 rfl cellsIs
  have f3 := open_at Try.underlying27 h 3 24 3 1 rfl cellsRs
  have f4 := open_at Try.underlying27 h 4 25 4 1 rfl cellsMs
  rw [cellsProg] at hl
  obtain ⟨c0, c1, c2, c3, c4, rfl⟩ := five hl
  simp only [List.drop_succ_cons, List.drop_zero, List.take_succ_cons, List.take_zero] at f0 f1 f2 f3 f4
  obtain ⟨n0, h0, g0⟩ := open_int1 Try.underlying3 f0
  obtain ⟨v1, l1, h1, g1⟩ := open_Strs f1
  obtain ⟨v2, l2, h2, g2⟩ := open_Ints f2
  obtain ⟨v3, l3, h3, g3⟩ := open_Rules f3
  obtain ⟨v4, l4, h4, g4⟩ := open_Mins f4
  simp only [List.cons.injEq, and_true] at h0 h1 h2 h3 h4
  subst h0 h1 h2 h3 h4
  exact ⟨⟨n0, l1, l2, l3, l4⟩, _, _, _, _, rfl, wf_i64 g0, g1, g2, g3, g4⟩

end

end Go.Proofs.Ytkjpnpkmnpofgaa
