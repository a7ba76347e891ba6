/- My texts AppG, CpS, Mo0, Mo26, Frame, merged. -/
import Derived.Test.YtoahecjdkgeamaaGreatDoorM15
import Derived.Test.YtoahecjdkgeamaaGreatDoorM02
import Derived.Test.YtoahecjdkgeamaaGreatDoorM13
import Derived.Test.YtoahecjdkgeamaaGreatDoorM06
import Derived.Test.YtoahecjdkgeamaaGreatDoorM07
import Derived.Test.YtoahecjdkgeamaaGreatDoorM11

/- 'append(append([]GRule{}, p.Rules...), r)': the copy as a row of the call's own. -/
namespace Go.Proofs.YtoahecjdkgeamaaGreatDoor
open Go.RowKit

section
variable {w : World} {x : Value} {l : List GR} {vh vb vw : Nat → Value}

theorem run_copyG (ty : TypeId) (b0 : Nat) (h : Rows w x 6 88 l.length (fun i => ruleCell (ixR l i) (vh i) (vb i) (vw i))) (hs : ∀ i, i < l.length → RuleSl w (ixR l i) (vh i) (vb i) (vw i)) (h0 : 0 < l.length) (hl : l.length ≤ 40000) :
    ∃ c w', (Builtin.append_ #[24, 24] ty #[.slice (some ⟨b0, 0, none⟩) 0 0, x]).run Tryz.prog w = .ok (.slice (some ⟨w.heap.size, 0, none⟩) l.length c) w' ∧
      w'.ownsRow w.heap.size 51 6 (.slice (some ⟨w.heap.size, 0, none⟩) l.length c) l.length ((rowsOf l vh vb vw).flatMap cells6) ∧ Below w.heap.size w w' := by
  have hi := infoR
  obtain ⟨i, hi, he⟩ := Option.map_eq_some_iff.1 hi
  simp only [Prod.mk.injEq] at he
  obtain ⟨hz, hsz, hby⟩ := he
  have hsrc := rows_src h hs
  rw [← hsz] at hsrc
  have hr := run_append_grow_src (P := Tryz.prog) w 24 24 ty 51 i _ Tryz.underlying24 hi hz (some ⟨b0, 0, none⟩) 0 0 [] (by exact run_firstCells_some (P := Tryz.prog) w.drew i.size 0 ⟨b0, 0, none⟩ 0 0 [] (by simp) (fun j u hu => by simp at hu)) x l.length _ hsrc (by omega) (by omega) (growslice_fits (by omega) (by rw [hby]; omega))
  have hge := grownCap_ge w (0 + l.length) 0 51
  simp only [Nat.zero_add, List.nil_append] at hr hge
  have hgm := grownCap_le_maxLen w l.length 0 51 (by unfold maxLen; omega)
  have hfl : ((rowsOf l vh vb vw).flatMap cells6).length = l.length * 6 := by rw [flat_len, rowsOf_len]
  refine ⟨_, _, hr, ⟨hfl, .inr ⟨w.heap.size, grownCap w l.length 0 51, _, rfl, Nat.le_refl _, heap_alloc_new w.drew _, by omega, by omega, ?_, ?_⟩⟩, bal (Below.refl _ _).drew _⟩
  · simp only [Array.size_append, List.size_toArray, hfl]
    have : ∀ n, (Builtin.zeroCells (Value.agg #[.bool false, .slice none 0 0, .bool false, .int .i64 0, .slice none 0 0, .slice none 0 0]).cells n).size = n * 6 := fun n => by simp [Builtin.zeroCells, Value.cells]
    rw [this]; omega
  · rw [Array.toList_append, List.take_append_of_le_length (by rw [hfl]; omega), List.take_of_length_le (by rw [hfl]; omega)]
end

/-- What the copy leaves, as a fact of a drawn region. -/
theorem copyG_upon {w : World} {x : Value} {l : List GR} {vh vb vw : Nat → Value} (ty : TypeId) (b0 : Nat) (h : Rows w x 6 88 l.length (fun i => ruleCell (ixR l i) (vh i) (vb i) (vw i))) (hs : ∀ i, i < l.length → RuleSl w (ixR l i) (vh i) (vb i) (vw i)) (h0 : 0 < l.length) (hl : l.length ≤ 40000) :
    ∃ c w', (Builtin.append_ #[24, 24] ty #[.slice (some ⟨b0, 0, none⟩) 0 0, x]).run Tryz.prog w = .ok (.slice (some ⟨w.heap.size, 0, none⟩) l.length c) w' ∧
      Below w.heap.size w w' ∧ w.heap.size < w'.heap.size ∧ w'.ownsRow w.heap.size 51 6 (.slice (some ⟨w.heap.size, 0, none⟩) l.length c) l.length ((rowsOf l vh vb vw).flatMap cells6) := by
  obtain ⟨c, w', h1, h2, h3⟩ := run_copyG ty b0 h hs h0 hl
  refine ⟨c, w', h1, h3, ?_, h2⟩
  rcases h2.2 with ⟨e, _⟩ | ⟨g, cap, cur, e, hb, hg, _⟩
  · cases e
  · have := (Array.getElem?_eq_some_iff.1 hg).1
    omega

theorem memUpon_appendR {o : Oper} {a : Act} {w w' : World} {Post : Value → World → Prop} (s x : Operand) {v y v' : Value}
    (ho : o.op = .call { callee := .builtin .append, args := #[s, x], argTypes := #[24, 24] }) (hs : a.eval s = v) (hx : a.eval x = y) (hr : (Builtin.append_ #[24, 24] o.type #[v, y]).run Tryz.prog w = .ok v' w') (hP : Post v' w') :
    memUpon Tryz.prog Post ((execOp a.eval o).run Tryz.prog w) := by
  unfold execOp
  simp only [ho, resolve, invoke, builtin, Sem.run_bind, Sem.run_pure, Result.andThen_ok, List.map_toArray, List.map_cons, List.map_nil, hs, hx, hr]
  exact hP

/-- The copied rules with one more read as the rules with one more. -/
theorem pushed_rules {w : World} {base g cap : Nat} {l : List GR} {vh vb vw : Nat → Value} {r : GR} {xh xb xw : Value}
    (h : w.ownsRow base 51 6 (.slice (some ⟨g, 0, none⟩) (l.length + 1) cap) (l.length + 1) ((rowsOf l vh vb vw).flatMap cells6 ++ cells6 (r, xh, xb, xw)))
    (hs : ∀ i, i < l.length → RuleSl w (ixR l i) (vh i) (vb i) (vw i)) (hr : RuleSl w r xh xb xw) (hl : l.length ≤ 40000) : RulesIs w (.slice (some ⟨g, 0, none⟩) (l.length + 1) cap) (l ++ [r]) := by
  have hL : (rowsOf l vh vb vw).flatMap cells6 ++ cells6 (r, xh, xb, xw) = (rowsOf l vh vb vw ++ [(r, xh, xb, xw)]).flatMap cells6 := by simp
  rw [hL] at h
  have hlen : (l ++ [r]).length = l.length + 1 := by simp
  have hQ : (rowsOf l vh vb vw ++ [(r, xh, xb, xw)]).length = l.length + 1 := by simp [rowsOf_len]
  have hx : ∀ i, i < l.length + 1 → ((rowsOf l vh vb vw ++ [(r, xh, xb, xw)]).getD i default).1 = ixR (l ++ [r]) i ∧ RuleSl w (ixR (l ++ [r]) i) ((rowsOf l vh vb vw ++ [(r, xh, xb, xw)]).getD i default).2.1 ((rowsOf l vh vb vw ++ [(r, xh, xb, xw)]).getD i default).2.2.1 ((rowsOf l vh vb vw ++ [(r, xh, xb, xw)]).getD i default).2.2.2 := fun i hi => by
    by_cases e : i < l.length
    · have e1 : (rowsOf l vh vb vw ++ [(r, xh, xb, xw)]).getD i default = (ixR l i, vh i, vb i, vw i) := by
        rw [List.getD_eq_getElem?_getD, List.getElem?_append_left (by rw [rowsOf_len]; exact e)]
        simp [rowsOf, e]
      have e2 : ixR (l ++ [r]) i = ixR l i := by
        unfold ixR
        rw [List.getD_eq_getElem?_getD, List.getElem?_append_left e, List.getD_eq_getElem?_getD]
      rw [e1, e2]
      exact ⟨rfl, hs i e⟩
    · obtain rfl : i = l.length := by omega
      have e1 : (rowsOf l vh vb vw ++ [(r, xh, xb, xw)]).getD l.length default = (r, xh, xb, xw) := by
        rw [List.getD_eq_getElem?_getD, List.getElem?_append_right (by rw [rowsOf_len]; exact Nat.le_refl _)]
        simp [rowsOf_len]
      have e2 : ixR (l ++ [r]) l.length = r := by
        unfold ixR
        rw [List.getD_eq_getElem?_getD, List.getElem?_append_right (Nat.le_refl _)]
        simp
      rw [e1, e2]
      exact ⟨rfl, hr⟩
  generalize rowsOf l vh vb vw ++ [(r, xh, xb, xw)] = L at *
  rcases h.2 with ⟨e, _⟩ | ⟨g', cap', cur, e, hb, hg, h1, h2, h3, h4⟩
  · cases e
  · simp only [Value.slice.injEq, Option.some.injEq, Addr.mk.injEq] at e
    obtain ⟨⟨rfl, -⟩, -, rfl⟩ := e
    refine ⟨fun i => (L.getD i default).2.1, fun i => (L.getD i default).2.2.1, fun i => (L.getD i default).2.2.2, ⟨_, cap, by rw [hlen], by rw [hlen]; exact h1, h2, by rw [hlen]; omega, fun _ => ⟨g, 0, rfl, (Array.getElem?_eq_some_iff.1 hg).1, fun i hi j hj => ?_⟩⟩, fun i hi => ?_⟩
    · rw [hlen] at hi
      have hcell : (L.flatMap cells6)[i * 6 + j]? = some (ruleCell (ixR (l ++ [r]) i) (L.getD i default).2.1 (L.getD i default).2.2.1 (L.getD i default).2.2.2 j) := by
        rw [flat6 L i j (by omega) hj, ← (hx i hi).1]
        rcases (show j = 0 ∨ j = 1 ∨ j = 2 ∨ j = 3 ∨ j = 4 ∨ j = 5 by omega) with rfl | rfl | rfl | rfl | rfl | rfl <;> rfl
      rw [← h4, List.getElem?_take_of_lt (by omega), Array.getElem?_toList] at hcell
      simp only [World.cell?, hg, Nat.zero_add, hcell]
      rfl
    · rw [hlen] at hi
      exact (hx i hi).2

end Go.Proofs.YtoahecjdkgeamaaGreatDoor

/- The completion and supported sets (plain): the stage's theorem. -/
namespace Go.Proofs.YtoahecjdkgeamaaGreatDoor

theorem setQ_mem {n : Int} {m : List Int} (h : setQ n m = true) {x : Int} (hx : x ∈ m) : 1 ≤ x ∧ x ≤ n := by
  obtain ⟨j, hj, rfl⟩ := mem_ix.1 hx
  unfold setQ at h
  have := allR_get h j hj
  unfold setTo at this
  simp only [Bool.and_eq_true, decide_eq_true_eq] at this
  exact this.1

section
variable {p : GP} {a m : List Int}

end

end Go.Proofs.YtoahecjdkgeamaaGreatDoor

/- A rule more (plain): supported sets. -/
namespace Go.Proofs.YtoahecjdkgeamaaGreatDoor

def addR (p : GP) (r : GR) : GP := ⟨p.n, p.names, p.shown, p.rules ++ [r], p.min⟩

theorem ixR_old {l : List GR} {r : GR} {i : Nat} (h : i < l.length) : ixR (l ++ [r]) i = ixR l i := by
  unfold ixR
  rw [List.getD_eq_getElem?_getD, List.getElem?_append_left h, List.getD_eq_getElem?_getD]
theorem ixR_new {l : List GR} {r : GR} : ixR (l ++ [r]) l.length = r := by
  unfold ixR
  rw [List.getD_eq_getElem?_getD, List.getElem?_append_right (Nat.le_refl _)]
  simp

theorem rules_ok {p : GP} (h : validE p = 0) {i : Nat} (hi : i < p.rules.length) : ruleE (ixR p.rules i) p.n = 0 := by
  unfold validE at h
  split at h
  · omega
  split at h
  · omega
  split at h
  · rename_i h3; exact absurd h h3
  rename_i h3
  exact rulesFrom_zero p.rules.length 0 (Decidable.not_not.1 h3) i (by omega) (by omega)

theorem addR_valid {p : GP} {r : GR} (h : validE p = 0) (hl : p.rules.length < 40000) (hr : ruleE r p.n = 0) : validE (addR p r) = 0 := by
  have h0 : rulesE (addR p r).rules (addR p r).n = 0 := by
    show rulesE (p.rules ++ [r]) p.n = 0
    rw [rulesFrom_split (p.rules ++ [r]) p.n (p.rules.length + 1) (by simp) fun j hj => ?_]
    · have e : (p.rules ++ [r]).length - (p.rules.length + 1) = 0 := by simp
      rw [e]; rfl
    · rcases Nat.lt_or_ge j p.rules.length with h1 | h1
      · rw [ixR_old h1]; exact rules_ok h h1
      · obtain rfl : j = p.rules.length := by omega
        rw [ixR_new]; exact hr
  have hlen : (addR p r).rules.length = p.rules.length + 1 := by simp [addR]
  unfold validE at h ⊢
  rw [h0, hlen]
  have hn : namedB (addR p r) = namedB p := rfl
  have hm : (addR p r).min = p.min := rfl
  have hnn : (addR p r).n = p.n := rfl
  rw [hn, hm, hnn]
  split at h
  · omega
  rename_i h1
  rw [if_neg h1, if_neg (by omega), if_neg (by simp)]
  split at h
  · omega
  split at h
  · rename_i h3; exact absurd h h3
  · exact h

theorem models_add (p : GP) (r : GR) (S : List Int) : modelsB (addR p r) S = (modelsB p S && satT r S) := by
  unfold modelsB
  rw [show (addR p r).rules.length = p.rules.length + 1 by simp [addR], allR_succ]
  show (allR p.rules.length (fun i => satT (ixR (p.rules ++ [r]) i) S) && satT (ixR (p.rules ++ [r]) p.rules.length) S) = _
  rw [ixR_new, allR_cong fun i hi => by rw [ixR_old hi]]

theorem anyR_succ (n : Nat) (f : Nat → Bool) : anyR (n + 1) f = (anyR n f || f n) := by
  simp [anyR, List.range_succ, List.any_append]
theorem anyR_cong {n : Nat} {f g : Nat → Bool} (h : ∀ i, i < n → f i = g i) : anyR n f = anyR n g := by
  rw [Bool.eq_iff_iff]
  constructor
  · intro h1
    obtain ⟨i, hi, e⟩ := anyR_is h1
    exact anyR_true i hi (by rw [← h i hi]; exact e)
  · intro h1
    obtain ⟨i, hi, e⟩ := anyR_is h1
    exact anyR_true i hi (by rw [h i hi]; exact e)

theorem sup_add (p : GP) (r : GR) (S : List Int) (x : Int) : anyR (addR p r).rules.length (fun i => bodyT (ixR (addR p r).rules i) S && decide (x ∈ (ixR (addR p r).rules i).head)) = (anyR p.rules.length (fun i => bodyT (ixR p.rules i) S && decide (x ∈ (ixR p.rules i).head)) || (bodyT r S && decide (x ∈ r.head))) := by
  rw [show (addR p r).rules.length = p.rules.length + 1 by simp [addR], anyR_succ]
  show (anyR p.rules.length (fun i => bodyT (ixR (p.rules ++ [r]) i) S && decide (x ∈ (ixR (p.rules ++ [r]) i).head)) || (bodyT (ixR (p.rules ++ [r]) p.rules.length) S && decide (x ∈ (ixR (p.rules ++ [r]) p.rules.length).head))) = _
  rw [ixR_new, anyR_cong fun i hi => by rw [ixR_old hi]]

/-- A constraint more. -/
theorem supp_con (p : GP) {r : GR} (hc : r.choice = false) (hh : r.head = []) (S : List Int) : suppB (addR p r) S = (suppB p S && !bodyT r S) := by
  unfold suppB
  rw [models_add, allR_cong (g := fun j => anyR p.rules.length (fun i => bodyT (ixR p.rules i) S && decide (ix S j ∈ (ixR p.rules i).head))) fun j _ => by rw [sup_add, hh]; simp]
  have : satT r S = !bodyT r S := by unfold satT; rw [hc, hh]; simp [anyR]
  rw [this]
  cases modelsB p S <;> cases bodyT r S <;> simp

/-- A choice of all atoms more. -/
theorem supp_free (p : GP) {r : GR} (hc : r.choice = true) (hs : r.sum = false) (hb : r.body = []) {S : List Int} (hh : ∀ x ∈ S, x ∈ r.head) : suppB (addR p r) S = modelsB p S := by
  have h1 : satT r S = true := by unfold satT; rw [hc]; rfl
  have h2 : bodyT r S = true := by unfold bodyT; rw [hs, hb]; rfl
  unfold suppB
  rw [models_add, h1, Bool.and_true, allR_true (f := fun j => anyR (addR p r).rules.length _) fun j hj => ?_, Bool.and_true]
  rw [sup_add, h2, decide_eq_true (hh _ (ix_mem hj))]
  simp

theorem ruleE_con {r : GR} {n : Int} (h : ruleE r n = 0) : ruleE ⟨false, [], r.sum, r.bound, r.body, r.w⟩ n = 0 := by
  unfold ruleE at h ⊢
  have h0 : increasingB [] n = true := rfl
  split at h
  · omega
  rename_i h1
  rw [if_neg h1, if_neg (by simp [h0])]
  split at h
  · omega
  exact h

theorem subL_all : ∀ k : Nat, k ≤ 6 → subL (-1) k = (List.range k).map fun (j : Nat) => (j : Int) + 1 := by
  decide

theorem ruleE_free {n : Int} (hn : 1 ≤ n ∧ n ≤ 6) : ruleE ⟨true, subL (-1) n.toNat, false, 0, [], []⟩ n = 0 := by
  rcases (show n = 1 ∨ n = 2 ∨ n = 3 ∨ n = 4 ∨ n = 5 ∨ n = 6 by omega) with rfl | rfl | rfl | rfl | rfl | rfl <;> kernel_rfl

theorem subL_full {n : Int} (hn : 0 ≤ n ∧ n ≤ 6) {S : List Int} (hS : setQ n S = true) : ∀ x ∈ S, x ∈ subL (-1) n.toNat := fun x hx => by
  have h1 := setQ_mem hS hx
  rw [subL_all _ (by omega)]
  exact List.mem_map.2 ⟨(x - 1).toNat, List.mem_range.2 (by omega), by omega⟩

end Go.Proofs.YtoahecjdkgeamaaGreatDoor

/- ostlerlaw26.CompleteMore returns true and writes nothing that was there. -/
namespace Go.Proofs.YtoahecjdkgeamaaGreatDoor
open Go.RowKit

/-- The new rule's box. -/
def mo4Φ (i : Nat) (_ : List Value) (v : Value) (lo hi : Nat) (w : World) : Prop :=
  i = 10 ∧ v = .pointer (some ⟨lo, 0, none⟩) ∧ lo < hi ∧ Blk w lo [.bool false, .slice none 0 0, .bool false, .int .i64 0, .slice none 0 0, .slice none 0 0] 51
theorem mo4Φ_later : ∀ i args v lo hi w w', mo4Φ i args v lo hi w → Below w.heap.size w w' → mo4Φ i args v lo hi w' :=
  fun _ _ _ _ _ _ _ h hb => ⟨h.1, h.2.1, h.2.2.1, h.2.2.2.below hb⟩

/-- What the copies of the rules leave. -/
def mo7Φ (l : List GR) (vh vb vw : Nat → Value) (cs : List Value) (i : Nat) (_ : List Value) (v : Value) (lo hi : Nat) (w : World) : Prop :=
  match i with
  | 0 => v = .slice (some ⟨lo, 0, none⟩) 0 0
  | 3 => ∃ c, v = .slice (some ⟨lo, 0, none⟩) l.length c ∧ w.ownsRow lo 51 6 (.slice (some ⟨lo, 0, none⟩) l.length c) l.length ((rowsOf l vh vb vw).flatMap cells6)
  | _ => v = .slice (some ⟨lo, 0, none⟩) 1 1 ∧ lo < hi ∧ Blk w lo cs 51
theorem mo7Φ_later (l : List GR) (vh vb vw : Nat → Value) (cs : List Value) : ∀ i args v lo hi w w', mo7Φ l vh vb vw cs i args v lo hi w → Below w.heap.size w w' → mo7Φ l vh vb vw cs i args v lo hi w' := by
  intro i args v lo hi w w' h hb
  unfold mo7Φ at *
  split at h
  · exact h
  · obtain ⟨c, e, h1⟩ := h
    exact ⟨c, e, row_below h1 hb⟩
  · exact ⟨h.1, h.2.1, h.2.2.below hb⟩

theorem grownBy_cell (w : World) (mb o : Nat) (u : Value) : w.grownBy (w.setCell ⟨mb, o, none⟩ u) (some mb) :=
  ⟨rfl, rfl, rfl, by simp [World.setCell], fun i _ h => Below.heap_setCell _ _ _ _ fun e => h (congrArg some e)⟩
theorem row_mono {B B' E sz n : Nat} {v : Value} {xs : List Value} {w : World} (h : w.ownsRow B E sz v n xs) (hb : B' ≤ B) : w.ownsRow B' E sz v n xs := by
  refine ⟨h.1, ?_⟩
  rcases h.2 with h2 | ⟨g, cap, cur, e, h2, r⟩
  · exact .inl h2
  · exact .inr ⟨g, cap, cur, e, by omega, r⟩
theorem ProgIs.rules' {w : World} {n : Int} {vn vs vr vm : Value} {p : GP} (h : ProgIs w (.agg #[.int .i64 n, vn, vs, vr, vm]) p) :
    ∃ vh vb vw : Nat → Value, Rows w vr 6 88 p.rules.length (fun i => ruleCell (ixR p.rules i) (vh i) (vb i) (vw i)) ∧ ∀ i, i < p.rules.length → RuleSl w (ixR p.rules i) (vh i) (vb i) (vw i) := by
  obtain ⟨_, _, _, _, e, h⟩ := h
  simp only [Value.agg.injEq, Array.mk.injEq, List.cons.injEq, and_true] at e
  obtain ⟨-, -, -, rfl, -⟩ := e
  exact h.rules

theorem ProgIs.setRules {w : World} {n : Int} {vn vs vr vm vr' : Value} {p : GP} {l : List GR} (h : ProgIs w (.agg #[.int .i64 n, vn, vs, vr, vm]) p) (hr : RulesIs w vr' l) : ProgIs w (.agg #[.int .i64 n, vn, vs, vr', vm]) ⟨p.n, p.names, p.shown, l, p.min⟩ := by
  obtain ⟨vn2, vs2, vr2, vm2, e, h⟩ := h
  simp only [Value.agg.injEq, Array.mk.injEq, List.cons.injEq, Value.int.injEq, and_true, true_and] at e
  obtain ⟨rfl, rfl, rfl, rfl, rfl⟩ := e
  exact ⟨_, _, _, _, rfl, h.n, h.names, h.shown, hr, h.min⟩

/-- What the copies of the rules, the new choice leave. -/
def mo11Φ (B : Nat) (l : List GR) (vh vb vw : Nat → Value) (H : List Int) (i : Nat) (_ : List Value) (v : Value) (lo hi : Nat) (w : World) : Prop :=
  match i with
  | 0 => v = .slice (some ⟨lo, 0, none⟩) 0 0
  | 3 => ∃ c, v = .slice (some ⟨lo, 0, none⟩) l.length c ∧ w.ownsRow lo 51 6 (.slice (some ⟨lo, 0, none⟩) l.length c) l.length ((rowsOf l vh vb vw).flatMap cells6)
  | 6 => ∃ a c, v = .slice a H.length c ∧ QRow B w (.slice a H.length c) H
  | _ => ∃ a c, v = .slice (some ⟨lo, 0, none⟩) 1 1 ∧ lo < hi ∧ Blk w lo [.bool true, .slice a H.length c, .bool false, .int .i64 0, .slice none 0 0, .slice none 0 0] 51 ∧ QRow B w (.slice a H.length c) H
theorem mo11Φ_later (B : Nat) (l : List GR) (vh vb vw : Nat → Value) (H : List Int) : ∀ i args v lo hi w w', mo11Φ B l vh vb vw H i args v lo hi w → Below w.heap.size w w' → mo11Φ B l vh vb vw H i args v lo hi w' := by
  intro i args v lo hi w w' h hb
  unfold mo11Φ at *
  split at h
  · exact h
  · obtain ⟨c, e, h1⟩ := h
    exact ⟨c, e, row_below h1 hb⟩
  · obtain ⟨a, c, e, h1⟩ := h
    exact ⟨a, c, e, h1.below hb⟩
  · obtain ⟨a, c, e, h1, h2, h3⟩ := h
    exact ⟨a, c, e, h1, h2.below hb, h3.below hb⟩

set_option maxHeartbeats 4000000 in
set_option maxRecDepth 100000 in
theorem mo26_walk (vp : Value) (p : GP) (bits which : Int) (w : World) (hP : ProgIs w vp p) (hbits : 0 ≤ bits ∧ bits ≤ 255) (hw : 0 ≤ which ∧ which ≤ 255) :
    Calls Tryz.prog 6 #[vp, .int .u8 bits, .int .u8 which] w fun e w' => e = .returned (.bool true) ∧ Below w.heap.size w w' := by
  have hP0 := hP
  obtain ⟨vn, vs, vr, vm, rfl, hPS⟩ := hP
  have hpn := hPS.n
  unfold InI at hpn
  obtain ⟨ar, cr, rfl, -, hlr, -, hcr⟩ := hPS.rules.form
  obtain ⟨an, cn, rfl, -⟩ := hPS.names.form
  obtain ⟨ah, ch, rfl, -⟩ := hPS.shown.form
  obtain ⟨am, cm, rfl, -⟩ := hPS.min.form
  have HCR := Lib.hid hcr
  have HPS := Lib.hid hPS
  have HS0 := Lib.hid (LwSt.start hP0)
  clear hP0 hPS hcr
  go_enter Tryz.func6, Tryz.ntmps6
  go_upto_region 1 with fail
  have kx0 := HS0.out.box.cell
  generalize w.alloc (.cells #[.int .i64 p.n, .slice an p.names.length cn, .slice ah p.shown.length ch, .slice ar p.rules.length cr, .slice am p.min.length cm] 27) = W at *
  cases hsm : smallB p with
  | false =>
    have HSM := Lib.hid hsm
    clear hsm
    go_wp2_with (first
      | (go_at_call 26; (with_reducible refine (small_any _ p _ HS0.out.prog).mono ?_); rintro e w1 ⟨h1, hb1⟩; rw [HSM.out] at h1; subst h1; have HS1 := Lib.hid (HS0.out.on hb1); have kx1 := HS1.out.box.cell; clear hb1)
      | (go_at_call 10; (with_reducible refine (awake26_any _).mono ?_); rintro e w9 ⟨rfl, hb9⟩; have HS9 := Lib.hid (HS1.out.on hb9); have kx9 := HS9.out.box.cell; clear hb9))
    go_ret
    exact ⟨rfl, HS9.out.below⟩
  | true =>
    have HSM := Lib.hid hsm
    have hsm2 := hsm
    unfold smallB at hsm2
    simp only [Bool.and_eq_true, decide_eq_true_eq] at hsm2
    obtain ⟨⟨⟨-, h6⟩, h7⟩, hv⟩ := hsm2
    clear hsm
    have HV := Lib.hid hv
    have hn0 := (validP hv).n
    clear hv
    by_cases hr0 : p.rules.length = 0
    · have hr0' : ((p.rules.length : Int) == 0) = true := by simp [hr0]
      clear hr0
      go_wp2_with (first
        | (go_at_call 26; (with_reducible refine (small_any _ p _ HS0.out.prog).mono ?_); rintro e w1 ⟨h1, hb1⟩; rw [HSM.out] at h1; subst h1; have HS1 := Lib.hid (HS0.out.on hb1); have kx1 := HS1.out.box.cell; clear hb1)
        | (go_at_call 10; (with_reducible refine (awake26_any _).mono ?_); rintro e w9 ⟨rfl, hb9⟩; have HS9 := Lib.hid (HS1.out.on hb9); have kx9 := HS9.out.box.cell; clear hb9))
      go_ret
      exact ⟨rfl, HS9.out.below⟩
    · have hr0' : ((p.rules.length : Int) == 0) = false := by simp [hr0]
      by_cases hn1 : p.n = 0
      · have hn1' : (p.n == 0) = true := by simp [hn1]
        have HN1 := Lib.hid hn1
        clear hn1
        go_wp2_with (first
          | (go_at_call 26; (with_reducible refine (small_any _ p _ HS0.out.prog).mono ?_); rintro e w1 ⟨h1, hb1⟩; rw [HSM.out] at h1; subst h1; have HS1 := Lib.hid (HS0.out.on hb1); have kx1 := HS1.out.box.cell; clear hb1)
          | (go_at_call 10; (with_reducible refine (awake26_any _).mono ?_); rintro e w9 ⟨rfl, hb9⟩; have HS9 := Lib.hid (HS1.out.on hb9); have kx9 := HS9.out.box.cell; clear hb9))
        go_ret
        exact ⟨rfl, HS9.out.below⟩
      · have hn1' : (p.n == 0) = false := by simp [hn1]
        obtain ⟨u, hu1, hu2⟩ : ∃ u : Nat, which % (p.rules.length : Int) = u ∧ u < p.rules.length := by
          have h1 := Int.emod_nonneg which (show (p.rules.length : Int) ≠ 0 by omega)
          have h2 := Int.emod_lt_of_pos which (show (0 : Int) < p.rules.length by omega)
          exact ⟨(which % (p.rules.length : Int)).toNat, by omega, by omega⟩
        have hu3 : Int.tmod which (p.rules.length : Int) = u := by rw [Int.tmod_eq_emod_of_nonneg hw.1, hu1]
        have HU1 := Lib.hid hu1
        clear hu1
        go_upto_region 4 with (first
          | (go_at_call 26; (with_reducible refine (small_any _ p _ HS0.out.prog).mono ?_); rintro e w1 ⟨h1, hb1⟩; rw [HSM.out] at h1; subst h1; have HS1 := Lib.hid (HS0.out.on hb1); have kx1 := HS1.out.box.cell; clear hb1)
          | (go_at_call 23; (with_reducible refine (subset_int p.n bits ⟨hn0.1, by omega⟩ w1).mono ?_); rintro e w2 ⟨vS, rfl, hq, hb2⟩; obtain ⟨aS, cS, rfl⟩ := hq.slen; have HS2 := Lib.hid (HS1.out.on hb2); have kx2 := HS2.out.box.cell; have HI2 := Lib.hid (hq.ints (by have := subL_len bits p.n.toNat; omega)); clear hb2 hq))
        clear kx0 kx1
        obtain ⟨b, off, rfl, hbl, hc⟩ := HCR.out (by omega)
        obtain ⟨vh, vb, vw, ⟨k0, k1, k2, k3, k4, k5⟩, hsl⟩ := hc u hu2
        have hbw := HS2.out.below
        have q0 := (bcell hbw _ _ hbl).trans k0
        have q1 := (bcell hbw _ _ hbl).trans k1
        have q2 := (bcell hbw _ _ hbl).trans k2
        have q3 := (bcell hbw _ _ hbl).trans k3
        have q4 := (bcell hbw _ _ hbl).trans k4
        have q5 := (bcell hbw _ _ hbl).trans k5
        obtain ⟨a3, c3, rfl, -, hl3, -, -⟩ := hsl.head.form
        obtain ⟨a4, c4, rfl, -, hl4, -, -⟩ := hsl.body.form
        obtain ⟨a5, c5, rfl, -, hl5, -, -⟩ := hsl.wts.form
        have HSL := Lib.hid (hsl.below hbw)
        clear hc hsl hbw k0 k1 k2 k3 k4 k5
        have hz2 : w.heap.size < w2.heap.size := HS2.out.box.lt
        generalize hr : ixR p.rules u = r at *
        have HR := Lib.hid hr
        clear hr
        have kp : ∀ e : Ext w2, ∀ o, e.world.cell? ⟨w.heap.size, o, none⟩ = _ := fun e o => (bcell e.below _ o hz2).trans (HS2.out.box.cell o)
        have hbl2 : b < w2.heap.size := by omega
        have kq : ∀ e : Ext w2, ∀ o, e.world.cell? ⟨b, o, none⟩ = w2.cell? ⟨b, o, none⟩ := fun e o => bcell e.below _ o hbl2
        go_upto_region 4 with fail
        refine wp_region_tail' 11 (fun _ => True) mo4Φ (fun i => i == 10) (by kernel_rfl) (by kernel_rfl) (by kernel_rfl) (fun _ _ => trivial) mo4Φ_later ?_
        simp only [List.take_succ_cons, List.take_zero, List.drop_succ_cons, List.drop_zero]
        iterate 10 (refine walkP_head (by kernel_rfl) rfl rfl rfl (fun K hK => ?_); go_big_quiet_op; refine hK _ ?_; clear hK K)
        refine walkP_mem rfl rfl (fun wa hba hFa => ?_) (fun v10 lo hi l10 g10 h10 => ?_)
        · go_simp
          exact ⟨bal (Below.refl _ _) _, rfl, rfl, by simp, Blk.new _ _ _⟩
        obtain ⟨_, -, rfl, -, -⟩ := h10
        simp only [Act.put, List.setIfInBounds_toArray, List.set_cons_succ, List.set_cons_zero]
        intro wx hbx hF hI hP
        obtain ⟨-, -, -, f10⟩ := hF _ (.head _)
        have kf10 := f10.free
        have kc10 := f10.cell
        have HF10 := Lib.hid f10
        have HBX := Lib.hid hbx
        clear hF hI hP f10 hbx kx2 kp kq q0 q1 q2 q3 q4 q5
        iterate 1 (refine ⟨rfl, rfl, ?_⟩; go_simp)
        simp only [tailW]
        generalize hW4 : World.setCell _ ⟨lo, 5, none⟩ (.slice a5 r.w.length c5) = w4
        have hb4 : Below w2.heap.size w2 w4 := by
          rw [← hW4]
          exact (((((HBX.out.setCell (p := ⟨lo, 0, none⟩) l10 _).setCell (p := ⟨lo, 1, none⟩) l10 _).setCell (p := ⟨lo, 2, none⟩) l10 _).setCell (p := ⟨lo, 3, none⟩) l10 _).setCell (p := ⟨lo, 4, none⟩) l10 _).setCell (p := ⟨lo, 5, none⟩) l10 _
        have hk4 : Blk w4 lo [.bool r.choice, .slice a3 r.head.length c3, .bool r.sum, .int .i64 r.bound, .slice a4 r.body.length c4, .slice a5 r.w.length c5] 51 := by
          rw [← hW4]
          exact (((((HF10.out.set 0 (.bool r.choice)).set 1 (.slice a3 r.head.length c3)).set 2 (.bool r.sum)).set 3 (.int .i64 r.bound)).set 4 (.slice a4 r.body.length c4)).set 5 (.slice a5 r.w.length c5)
        have kf4 := hk4.free
        have kc4 := hk4.cell
        have HB4 := Lib.hid hb4
        have HK4 := Lib.hid hk4
        have HS4 := Lib.hid (HS2.out.on hb4)
        have kx4 := HS4.out.box.cell
        have hne : w.heap.size ≠ lo := by omega
        have hne2 : lo ≠ w.heap.size := by omega
        clear hW4 hb4 hk4 HF10 HBX kf10 kc10
        go_upto_region 6 with fail
        generalize hW5 : World.setCell _ ⟨lo, 0, none⟩ (.bool false) = w5
        have hb5 : Below w2.heap.size w2 w5 := by
          rw [← hW5]
          exact (HB4.out.setCell (p := ⟨lo, 1, none⟩) l10 _).setCell (p := ⟨lo, 0, none⟩) l10 _
        have hk5 : Blk w5 lo [.bool false, .slice none 0 0, .bool r.sum, .int .i64 r.bound, .slice a4 r.body.length c4, .slice a5 r.w.length c5] 51 := by
          rw [← hW5]
          exact (HK4.out.set 1 (.slice none 0 0)).set 0 (.bool false)
        have HB5 := Lib.hid hb5
        have HK5 := Lib.hid hk5
        have HS5 := Lib.hid (HS2.out.on hb5)
        have kx5 := HS5.out.box.cell
        clear hW5 hb5 hk5 HB4 HK4 HS4 kx4 kf4 kc4
        go_upto_region 7 with fail
        have hal := bal (Below.refl w5.heap.size w5) (.cells #[.int .i64 p.n, .slice an p.names.length cn, .slice ah p.shown.length ch, .slice (some ⟨b, off, none⟩) p.rules.length cr, .slice am p.min.length cm] 27)
        have HAL6 := Lib.hid hal
        have HK6 := Lib.hid (HK5.out.below hal)
        have HS6 := Lib.hid (HS5.out.on hal)
        have HB6 := Lib.hid (bon HB5.out hal)
        have HM6 := Lib.hid (Blk.new w5 [.int .i64 p.n, .slice an p.names.length cn, .slice ah p.shown.length ch, .slice (some ⟨b, off, none⟩) p.rules.length cr, .slice am p.min.length cm] 27)
        have hz5 : w2.heap.size ≤ w5.heap.size := HB5.out.size
        have hz5' : w2.heap.size ≤ w5.heap.size := HB5.out.size
        obtain ⟨mb, hmb⟩ : ∃ mb, w5.heap.size = mb := ⟨_, rfl⟩
        rw [hmb] at HM6 hz5
        clear hal kx5
        generalize w5.alloc (.cells #[.int .i64 p.n, .slice an p.names.length cn, .slice ah p.shown.length ch, .slice (some ⟨b, off, none⟩) p.rules.length cr, .slice am p.min.length cm] 27) = W6 at *
        rw [hmb]
        obtain ⟨wvh, wvb, wvw, hrows5, hsls5⟩ := HS5.out.prog.rules'
        have HSL5 := Lib.hid hsls5
        have hrows := hrows5.below HAL6.out
        have hsls := fun i hi => (hsls5 i hi).below HAL6.out
        clear hrows5 hsls5
        have HRW := Lib.hid hrows
        have HSLS := Lib.hid hsls
        have kp : ∀ e : Ext W6, ∀ o, e.world.cell? ⟨w.heap.size, o, none⟩ = _ := fun e o => (bcell e.below _ o HS6.out.box.lt).trans (HS6.out.box.cell o)
        have kr : ∀ e : Ext W6, ∀ o, e.world.cell? ⟨lo, o, none⟩ = _ := fun e o => (bcell e.below _ o HK6.out.lt).trans (HK6.out.cell o)
        clear hrows hsls
        refine wp_region_tail' 6 (fun _ => True) (mo7Φ p.rules wvh wvb wvw [.bool false, .slice none 0 0, .bool r.sum, .int .i64 r.bound, .slice a4 r.body.length c4, .slice a5 r.w.length c5]) (fun i => i == 0 || i == 3 || i == 5) (by kernel_rfl) (by kernel_rfl) (by kernel_rfl) (fun _ _ => trivial) (mo7Φ_later _ _ _ _ _) ?_
        simp only [List.take_succ_cons, List.take_zero, List.drop_succ_cons, List.drop_zero]
        refine walkP_mem rfl rfl (fun wa hba hFa => ?_) (fun v0 lo0 hi0 l0 g0 h0 => ?_)
        · go_simp
          exact ⟨bal (Below.refl _ _) _, rfl⟩
        obtain ⟨_, rfl⟩ := h0
        simp only [Act.put, List.setIfInBounds_toArray, List.set_cons_succ, List.set_cons_zero]
        iterate 2 (refine walkP_head (by kernel_rfl) rfl rfl rfl (fun K hK => ?_); go_big_quiet_op; refine hK _ ?_; clear hK K)
        refine walkP_mem rfl rfl (fun wa hba hFa => ?_) (fun v3 lo3 hi3 l3 g3 h3 => ?_)
        · obtain ⟨c, w', hr, hbe, -, hrow⟩ := copyG_upon (vh := wvh) (vb := wvb) (vw := wvw) 24 lo0 (HRW.out.below hba) (fun i hi => (HSLS.out i hi).below hba) (by omega) (by omega)
          exact memUpon_appendR _ _ rfl rfl rfl hr ⟨hbe, c, rfl, hrow⟩
        obtain ⟨_, c3', rfl, -⟩ := h3
        simp only [Act.put, List.setIfInBounds_toArray, List.set_cons_succ, List.set_cons_zero]
        iterate 1 (refine walkP_head (by kernel_rfl) rfl rfl rfl (fun K hK => ?_); go_big_quiet_op; refine hK _ ?_; clear hK K)
        refine walkP_mem rfl rfl (fun wa hba hFa => ?_) (fun v5 lo5 hi5 l5 g5 h5 => ?_)
        · go_simp
          exact ⟨bal (Below.refl _ _) _, rfl, by simp, Blk.new _ [.bool false, .slice none 0 0, .bool r.sum, .int .i64 r.bound, .slice a4 r.body.length c4, .slice a5 r.w.length c5] _⟩
        obtain ⟨_, rfl, -, -⟩ := h5
        simp only [Act.put, List.setIfInBounds_toArray, List.set_cons_succ, List.set_cons_zero]
        intro wx hbx hF hI hP
        obtain ⟨-, -, f5⟩ := hF _ (.head _)
        obtain ⟨c3x, e3, f3⟩ := hF _ (.tail _ (.head _))
        have HBX := Lib.hid hbx
        have hm9 := HM6.out.below hbx
        have hal9 : ∀ u ∈ cells6 ((⟨false, [], r.sum, r.bound, r.body, r.w⟩ : GR), Value.slice none 0 0, Value.slice a4 r.body.length c4, Value.slice a5 r.w.length c5), u.oneCell' = true := fun u hu => by
          simp only [cells6, List.mem_cons, List.not_mem_nil, or_false] at hu
          rcases hu with rfl | rfl | rfl | rfl | rfl | rfl <;> rfl
        simp only [Value.slice.injEq, true_and] at e3
        subst e3
        have HF5 := Lib.hid f5
        have HF3 := Lib.hid f3
        have HM9 := Lib.hid hm9
        have hzx := hbx.size
        clear hF hI hP f5 f3 hm9 hbx kp kr
        refine ⟨rfl, rfl, wp_appendR _ _ 24 Tryz.underlying24 rfl W6.heap.size _ (rowsOf p.rules wvh wvb wvw) (⟨false, [], r.sum, r.bound, r.body, r.w⟩, .slice none 0 0, .slice a4 r.body.length c4, .slice a5 r.w.length c5) rfl (by rw [rowsOf_len]; exact row_mono HF3.out l3) lo5 1 rfl HF5.out hal9 (by rw [rowsOf_len]; omega) hzx ?_⟩
        intro g cap w9 hq9 hg9 hl9 hgl9
        rw [rowsOf_len] at hq9 ⊢
        have hb9 : Below W6.heap.size W6 w9 := HBX.out.trans (below_row hg9 HBX.out.size fun g e => (row_base (row_mono HF3.out l3) e).1)
        have hm9 : Blk w9 mb [.int .i64 p.n, .slice an p.names.length cn, .slice ah p.shown.length ch, .slice (some ⟨b, off, none⟩) p.rules.length cr, .slice am p.min.length cm] 27 := HM6.out.below hb9
        have kc9 := hm9.cell
        have kf9 := hm9.free
        have hb10 : Below w5.heap.size w5 (w9.setCell ⟨mb, 3, none⟩ (.slice (some ⟨g, 0, none⟩) (p.rules.length + 1) cap)) := (bon HAL6.out hb9).setCell (p := ⟨mb, 3, none⟩) (Nat.le_of_eq hmb) _
        have hk10 : Blk (w9.setCell ⟨mb, 3, none⟩ (.slice (some ⟨g, 0, none⟩) (p.rules.length + 1) cap)) mb [.int .i64 p.n, .slice an p.names.length cn, .slice ah p.shown.length ch, .slice (some ⟨g, 0, none⟩) (p.rules.length + 1) cap, .slice am p.min.length cm] 27 := hm9.set 3 _
        have hgm : g ≠ mb := by
          have h1 := (row_base hq9 (g := g) rfl).1
          have := HM6.out.lt
          omega
        have hq10 := hq9.kept (grownBy_cell w9 mb 3 (.slice (some ⟨g, 0, none⟩) (p.rules.length + 1) cap)) (.inr fun e => hgm (Option.some.inj e))
        have HB9 := Lib.hid hb9
        have HB10 := Lib.hid hb10
        have HK10 := Lib.hid hk10
        have HQ10 := Lib.hid hq10
        clear hb9 hb10 hk10 hq10 hm9 hq9 hg9 hl9 HF5 HF3 HBX HM9 hal9
        refine ⟨trivial, rfl, rfl, ?_⟩
        go_simp
        refine ⟨rfl, rfl, ?_⟩
        go_simp
        simp only [tailW]
        have HV' : Hid (validE (addR p ⟨false, [], r.sum, r.bound, r.body, r.w⟩) = 0) := Lib.hid (addR_valid HV.out (by omega) (ruleE_con (by rw [← HR.out]; exact rules_ok HV.out hu2)))
        have HSR10 : Hid (RuleSl (w9.setCell ⟨mb, 3, none⟩ (.slice (some ⟨g, 0, none⟩) (p.rules.length + 1) cap)) ⟨false, [], r.sum, r.bound, r.body, r.w⟩ (.slice none 0 0) (.slice a4 r.body.length c4) (.slice a5 r.w.length c5)) := Lib.hid (by
          have h1 := HSL.out.below (HB5.out.trans (HB10.out.mono hz5'))
          exact ⟨nil_i _, h1.body, h1.wts, h1.bound⟩)
        have HP10 : Hid (ProgIs (w9.setCell ⟨mb, 3, none⟩ (.slice (some ⟨g, 0, none⟩) (p.rules.length + 1) cap)) (.agg #[.int .i64 p.n, .slice an p.names.length cn, .slice ah p.shown.length ch, .slice (some ⟨g, 0, none⟩) (p.rules.length + 1) cap, .slice am p.min.length cm]) (addR p ⟨false, [], r.sum, r.bound, r.body, r.w⟩)) := Lib.hid
          ((HS5.out.prog.below HB10.out).setRules (pushed_rules HQ10.out (fun i hi => (HSL5.out i hi).below HB10.out) HSR10.out (by omega)))
        have HS10 := Lib.hid (HS5.out.on HB10.out)
        have HKr10 := Lib.hid (HK5.out.below HB10.out)
        have HI10 := Lib.hid (HI2.out.below (HB5.out.trans (HB10.out.mono hz5')))
        clear kc9 kf9 HQ10 HB9 HB6 HAL6 HK6 HS6 HRW HSLS HM6 HSL5
        generalize w9.setCell ⟨mb, 3, none⟩ (.slice (some ⟨g, 0, none⟩) (p.rules.length + 1) cap) = w10 at *
        have HSQ := Lib.hid (subL_set bits hn0.1)
        have HSL60 : Hid ((subL bits p.n.toNat).length ≤ 1000000000) := Lib.hid (by have := subL_len bits p.n.toNat; omega)
        generalize hS : subL bits p.n.toNat = S at *
        clear hS
        have HVI : Hid (BodyV (⟨false, [], r.sum, r.bound, r.body, r.w⟩ : GR) p.n) := Lib.hid (by
          have h1 := bodyV_valid HV'.out (k := p.rules.length) (by simp [addR])
          have e : ixR (addR p ⟨false, [], r.sum, r.bound, r.body, r.w⟩).rules p.rules.length = ⟨false, [], r.sum, r.bound, r.body, r.w⟩ := ixR_new
          rw [e] at h1
          exact h1)
        obtain ⟨r', hr'⟩ : ∃ r' : GR, r' = ⟨false, [], r.sum, r.bound, r.body, r.w⟩ := ⟨_, rfl⟩
        have HC1 : Hid (∀ e : Ext w10, Calls Tryz.prog 20 #[.agg #[.int .i64 p.n, .slice an p.names.length cn, .slice ah p.shown.length ch, .slice (some ⟨g, 0, none⟩) (p.rules.length + 1) cap, .slice am p.min.length cm], .slice aS S.length cS] e.world fun e' w' => e' = .returned (.bool (suppB p S && !bodyT r' S)) ∧ Below e.world.heap.size e.world w') := Lib.hid fun e =>
          (supported_any _ _ _ S _ (HP10.out.below e.below) (HI10.out.below e.below)).mono fun e w' ⟨h1, h2⟩ => ⟨by rw [decide_eq_true HV'.out, Bool.true_and, supp_con p rfl rfl, show setQ (addR p ⟨false, [], r.sum, r.bound, r.body, r.w⟩).n S = true from HSQ.out, Bool.true_and, ← hr'] at h1; exact h1, h2⟩
        have HC2 : Hid (∀ e : Ext w10, Calls Tryz.prog 20 #[.agg #[.int .i64 p.n, .slice an p.names.length cn, .slice ah p.shown.length ch, .slice (some ⟨b, off, none⟩) p.rules.length cr, .slice am p.min.length cm], .slice aS S.length cS] e.world fun e' w' => e' = .returned (.bool (suppB p S)) ∧ Below e.world.heap.size e.world w') := Lib.hid fun e =>
          (supported_any _ _ _ S _ (HS10.out.prog.below e.below) (HI10.out.below e.below)).mono fun e w' ⟨h1, h2⟩ => ⟨by rw [decide_eq_true HV.out, HSQ.out] at h1; exact h1, h2⟩
        have HC3 : Hid (∀ e : Ext w10, Calls Tryz.prog 24 #[.agg #[.bool false, .slice none 0 0, .bool r.sum, .int .i64 r.bound, .slice a4 r.body.length c4, .slice a5 r.w.length c5], .slice aS S.length cS] e.world fun e' w' => e' = .returned (.bool (bodyT r' S)) ∧ Below e.world.heap.size e.world w') := Lib.hid fun e => by
          rw [hr']
          exact rBody_any _ _ (⟨false, [], r.sum, r.bound, r.body, r.w⟩ : GR) S _ ⟨_, _, _, rfl, HSR10.out.below e.below⟩ (HI10.out.below e.below) HSL60.out HVI.out
        have kp10 : ∀ e : Ext w10, ∀ o, e.world.cell? ⟨w.heap.size, o, none⟩ = _ := fun e o => (bcell e.below _ o HS10.out.box.lt).trans (HS10.out.box.cell o)
        have km10 : ∀ e : Ext w10, ∀ o, e.world.cell? ⟨mb, o, none⟩ = _ := fun e o => (bcell e.below _ o HK10.out.lt).trans (HK10.out.cell o)
        have kr10 : ∀ e : Ext w10, ∀ o, e.world.cell? ⟨lo, o, none⟩ = _ := fun e o => (bcell e.below _ o HKr10.out.lt).trans (HKr10.out.cell o)
        clear hr' HP10 HSR10 HVI
        go_upto_region 8 with fail
        go_cut [66] (fun s wx => s = .bool false ∧ Below w10.heap.size w10 wx)
        case first =>
          cases h1 : suppB p S with
          | false =>
            rw [h1, Bool.false_and] at HC1
            rw [h1] at HC2
            refine wp_region_ext (by kernel_rfl) (by kernel_rfl) ?_
            repeat (go_big_quiet_step ((first | (go_at_call 20; first | (with_reducible exact Calls.ext_of (HC1.out _)) | (with_reducible exact Calls.ext_of (HC2.out _))) | (go_at_call 24; exact Calls.ext_of (HC3.out _)))))
            refine wpQuiet_nil ?_
            intro w9 hw'
            obtain ⟨e9, he9⟩ := hw'
            have hb9 := e9.below
            rw [← he9] at hb9
            clear he9 e9
            try dsimp only
            go_wp2_with fail
            go_meet
            case rel => exact ⟨rfl, hb9⟩
          | true =>
            rw [h1, Bool.true_and] at HC1
            rw [h1] at HC2
            cases h2 : bodyT r' S with
            | false =>
              rw [h2, Bool.not_false] at HC1
              rw [h2] at HC3
              refine wp_region_ext (by kernel_rfl) (by kernel_rfl) ?_
              repeat (go_big_quiet_step ((first | (go_at_call 20; first | (with_reducible exact Calls.ext_of (HC1.out _)) | (with_reducible exact Calls.ext_of (HC2.out _))) | (go_at_call 24; exact Calls.ext_of (HC3.out _)))))
              refine wpQuiet_nil ?_
              intro w9 hw'
              obtain ⟨e9, he9⟩ := hw'
              have hb9 := e9.below
              rw [← he9] at hb9
              clear he9 e9
              try dsimp only
              go_wp2_with fail
              go_meet
              case rel => exact ⟨rfl, hb9⟩
            | true =>
              rw [h2, Bool.not_true] at HC1
              rw [h2] at HC3
              refine wp_region_ext (by kernel_rfl) (by kernel_rfl) ?_
              repeat (go_big_quiet_step ((first | (go_at_call 20; first | (with_reducible exact Calls.ext_of (HC1.out _)) | (with_reducible exact Calls.ext_of (HC2.out _))) | (go_at_call 24; exact Calls.ext_of (HC3.out _)))))
              refine wpQuiet_nil ?_
              intro w9 hw'
              obtain ⟨e9, he9⟩ := hw'
              have hb9 := e9.below
              rw [← he9] at hb9
              clear he9 e9
              try dsimp only
              go_wp2_with fail
              go_meet
              case rel => exact ⟨rfl, hb9⟩
        case rest =>
          clear HC1 HC2 HC3 kp10 km10 kr10
          obtain ⟨rfl, hbc⟩ := hcut
          have HSC := Lib.hid (HS10.out.on hbc)
          have HIC := Lib.hid (HI10.out.below hbc)
          have kxc := HSC.out.box.cell
          have hzc : w.heap.size < wc.heap.size := HSC.out.box.lt
          clear hbc HS10 HI10 HK10 HKr10 HB10 HS5 HB5 HK5 HSL HV' HR
          go_upto_region 11 with fail
          have hal := bal (Below.refl wc.heap.size wc) (.cells #[.int .i64 p.n, .slice an p.names.length cn, .slice ah p.shown.length ch, .slice (some ⟨b, off, none⟩) p.rules.length cr, .slice am p.min.length cm] 27)
          have HALc := Lib.hid hal
          have HS6 := Lib.hid (HSC.out.on hal)
          have HM6 := Lib.hid (Blk.new wc [.int .i64 p.n, .slice an p.names.length cn, .slice ah p.shown.length ch, .slice (some ⟨b, off, none⟩) p.rules.length cr, .slice am p.min.length cm] 27)
          obtain ⟨fb, hfb⟩ : ∃ fb, wc.heap.size = fb := ⟨_, rfl⟩
          rw [hfb] at HM6
          clear hal kxc
          generalize wc.alloc (.cells #[.int .i64 p.n, .slice an p.names.length cn, .slice ah p.shown.length ch, .slice (some ⟨b, off, none⟩) p.rules.length cr, .slice am p.min.length cm] 27) = W7 at *
          rw [hfb]
          obtain ⟨xvh, xvb, xvw, hrows5, hsls5⟩ := HSC.out.prog.rules'
          have HSLc := Lib.hid hsls5
          have HRW := Lib.hid (hrows5.below HALc.out)
          have HSLS := Lib.hid (fun i hi => (hsls5 i hi).below HALc.out)
          have kp : ∀ e : Ext W7, ∀ o, e.world.cell? ⟨w.heap.size, o, none⟩ = _ := fun e o => (bcell e.below _ o HS6.out.box.lt).trans (HS6.out.box.cell o)
          clear hrows5 hsls5
          refine wp_region_tail' 9 (fun _ => True) (mo11Φ W7.heap.size p.rules xvh xvb xvw (subL (-1) p.n.toNat)) (fun i => i == 0 || i == 3 || i == 6 || i == 8) (by kernel_rfl) (by kernel_rfl) (by kernel_rfl) (fun _ _ => trivial) (mo11Φ_later _ _ _ _ _ _) ?_
          simp only [List.take_succ_cons, List.take_zero, List.drop_succ_cons, List.drop_zero]
          refine walkP_mem rfl rfl (fun wa hba hFa => ?_) (fun v0 lo0 hi0 l0 g0 h0 => ?_)
          · go_simp
            exact ⟨bal (Below.refl _ _) _, rfl⟩
          obtain ⟨_, rfl⟩ := h0
          simp only [Act.put, List.setIfInBounds_toArray, List.set_cons_succ, List.set_cons_zero]
          iterate 2 (refine walkP_head (by kernel_rfl) rfl rfl rfl (fun K hK => ?_); go_big_quiet_op; refine hK _ ?_; clear hK K)
          refine walkP_mem rfl rfl (fun wa hba hFa => ?_) (fun v3 lo3 hi3 l3 g3 h3 => ?_)
          · obtain ⟨c, w', hr, hbe, -, hrow⟩ := copyG_upon (vh := xvh) (vb := xvb) (vw := xvw) 24 lo0 (HRW.out.below hba) (fun i hi => (HSLS.out i hi).below hba) (by omega) (by omega)
            exact memUpon_appendR _ _ rfl rfl rfl hr ⟨hbe, c, rfl, hrow⟩
          obtain ⟨_, c3', rfl, -⟩ := h3
          simp only [Act.put, List.setIfInBounds_toArray, List.set_cons_succ, List.set_cons_zero]
          iterate 2 (refine walkP_head (by kernel_rfl) rfl rfl rfl (fun K hK => ?_); go_big_quiet_op; refine hK _ ?_; clear hK K)
          refine walkP_mem rfl rfl (fun wa hba hFa => ?_) (fun v6 lo6 hi6 l6 g6 h6 => ?_)
          · go_simp
            refine (subset_int p.n (-1) ⟨hn0.1, by omega⟩ wa).mono (fun e w2 ⟨vS, h1, h2, h3⟩ => ?_)
            obtain ⟨a, c, rfl⟩ := h2.slen
            exact ⟨_, h1, h3, a, c, rfl, h2.mono hba.size⟩
          obtain ⟨_, a6, c6, rfl, -⟩ := h6
          simp only [Act.put, List.setIfInBounds_toArray, List.set_cons_succ, List.set_cons_zero]
          iterate 1 (refine walkP_head (by kernel_rfl) rfl rfl rfl (fun K hK => ?_); go_big_quiet_op; refine hK _ ?_; clear hK K)
          refine walkP_mem rfl rfl (fun wa hba hFa => ?_) (fun v8 lo8 hi8 l8 g8 h8 => ?_)
          · have f6 := hFa _ (.head _) (by kernel_rfl)
            obtain ⟨a, c, e6, f6⟩ := f6
            simp only [Value.slice.injEq, true_and] at e6
            obtain ⟨rfl, rfl⟩ := e6
            have hb6 := bal (Below.refl wa.heap.size wa) (.cells #[.bool true, .slice a6 (subL (-1) p.n.toNat).length c6, .bool false, .int .i64 0, .slice none 0 0, .slice none 0 0] 51)
            have f6b := f6.below hb6
            go_simp
            exact ⟨hb6, a6, c6, rfl, by simp, Blk.new _ [.bool true, .slice a6 (subL (-1) p.n.toNat).length c6, .bool false, .int .i64 0, .slice none 0 0, .slice none 0 0] _, f6b⟩
          obtain ⟨_, _, _, rfl, -⟩ := h8
          simp only [Act.put, List.setIfInBounds_toArray, List.set_cons_succ, List.set_cons_zero]
          intro wx hbx hF hI hP
          obtain ⟨a8, c8, -, -, f8, f8i⟩ := hF _ (.head _)
          obtain ⟨c3x, e3, f3⟩ := hF _ (.tail _ (.tail _ (.head _)))
          have HBX := Lib.hid hbx
          have hal9 : ∀ u ∈ cells6 ((⟨true, subL (-1) p.n.toNat, false, 0, [], []⟩ : GR), Value.slice a8 (subL (-1) p.n.toNat).length c8, Value.slice none 0 0, Value.slice none 0 0), u.oneCell' = true := fun u hu => by
            simp only [cells6, List.mem_cons, List.not_mem_nil, or_false] at hu
            rcases hu with rfl | rfl | rfl | rfl | rfl | rfl <;> rfl
          simp only [Value.slice.injEq, true_and] at e3
          subst e3
          have HF8 := Lib.hid f8
          have HF8i := Lib.hid f8i
          have HF3 := Lib.hid f3
          have hzx := hbx.size
          clear hF hI hP f8 f8i f3 hbx kp
          refine ⟨rfl, rfl, wp_appendR _ _ 24 Tryz.underlying24 rfl W7.heap.size _ (rowsOf p.rules xvh xvb xvw) (⟨true, subL (-1) p.n.toNat, false, 0, [], []⟩, .slice a8 (subL (-1) p.n.toNat).length c8, .slice none 0 0, .slice none 0 0) rfl (by rw [rowsOf_len]; exact row_mono HF3.out l3) lo8 1 rfl HF8.out hal9 (by rw [rowsOf_len]; omega) hzx ?_⟩
          intro g2 cap2 w9 hq9 hg9 hl9 hgl9
          rw [rowsOf_len] at hq9 ⊢
          have hb9 : Below W7.heap.size W7 w9 := HBX.out.trans (below_row hg9 HBX.out.size fun g e => (row_base (row_mono HF3.out l3) e).1)
          have hm9 : Blk w9 fb [.int .i64 p.n, .slice an p.names.length cn, .slice ah p.shown.length ch, .slice (some ⟨b, off, none⟩) p.rules.length cr, .slice am p.min.length cm] 27 := HM6.out.below hb9
          have kc9 := hm9.cell
          have kf9 := hm9.free
          have hb10 : Below wc.heap.size wc (w9.setCell ⟨fb, 3, none⟩ (.slice (some ⟨g2, 0, none⟩) (p.rules.length + 1) cap2)) := (bon HALc.out hb9).setCell (p := ⟨fb, 3, none⟩) (Nat.le_of_eq hfb) _
          have hk10 : Blk (w9.setCell ⟨fb, 3, none⟩ (.slice (some ⟨g2, 0, none⟩) (p.rules.length + 1) cap2)) fb [.int .i64 p.n, .slice an p.names.length cn, .slice ah p.shown.length ch, .slice (some ⟨g2, 0, none⟩) (p.rules.length + 1) cap2, .slice am p.min.length cm] 27 := hm9.set 3 _
          have hgm : g2 ≠ fb := by
            have h1 := (row_base hq9 (g := g2) rfl).1
            have := HM6.out.lt
            omega
          have hq10 := hq9.kept (grownBy_cell w9 fb 3 (.slice (some ⟨g2, 0, none⟩) (p.rules.length + 1) cap2)) (.inr fun e => hgm (Option.some.inj e))
          have hhd : Ints (w9.setCell ⟨fb, 3, none⟩ (.slice (some ⟨g2, 0, none⟩) (p.rules.length + 1) cap2)) (.slice a8 (subL (-1) p.n.toNat).length c8) (subL (-1) p.n.toNat) := by
            have h1 := QRow.rowKept HF8i.out (row_mono HF3.out l3) hg9
            have h2 : QRow W7.heap.size (w9.setCell ⟨fb, 3, none⟩ (.slice (some ⟨g2, 0, none⟩) (p.rules.length + 1) cap2)) (.slice a8 (subL (-1) p.n.toNat).length c8) (subL (-1) p.n.toNat) := h1.kept fun i hi _ _ => (grownBy_cell w9 fb 3 _).block i (by assumption) fun e => by have := HM6.out.lt; have := Option.some.inj e; omega
            exact h2.ints (by have := subL_len (-1) p.n.toNat; omega)
          have HB10 := Lib.hid hb10
          have HK10 := Lib.hid hk10
          have HQ10 := Lib.hid hq10
          have HHD := Lib.hid hhd
          clear hb9 hb10 hk10 hq10 hm9 hq9 hg9 hl9 HF8 HF8i HF3 HBX hal9 hhd
          refine ⟨trivial, rfl, rfl, ?_⟩
          go_simp
          refine ⟨rfl, rfl, ?_⟩
          go_simp
          simp only [tailW]
          have HVF : Hid (validE (addR p ⟨true, subL (-1) p.n.toNat, false, 0, [], []⟩) = 0) := Lib.hid (addR_valid HV.out (by omega) (ruleE_free (by omega)))
          have HP10 : Hid (ProgIs (w9.setCell ⟨fb, 3, none⟩ (.slice (some ⟨g2, 0, none⟩) (p.rules.length + 1) cap2)) (.agg #[.int .i64 p.n, .slice an p.names.length cn, .slice ah p.shown.length ch, .slice (some ⟨g2, 0, none⟩) (p.rules.length + 1) cap2, .slice am p.min.length cm]) (addR p ⟨true, subL (-1) p.n.toNat, false, 0, [], []⟩)) := Lib.hid
            ((HSC.out.prog.below HB10.out).setRules (pushed_rules HQ10.out (fun i hi => (HSLc.out i hi).below HB10.out) ⟨HHD.out, nil_i _, nil_i _, (by unfold InI; decide : InI 0)⟩ (by omega)))
          have HS10 := Lib.hid (HSC.out.on HB10.out)
          have HI10 := Lib.hid (HIC.out.below HB10.out)
          have HSF : Hid (suppB (addR p ⟨true, subL (-1) p.n.toNat, false, 0, [], []⟩) S = modelsB p S) := Lib.hid (supp_free p rfl rfl rfl (subL_full (by omega) HSQ.out))
          have HCK : Hid (checkE p S = 0) := Lib.hid (by unfold checkE; rw [if_neg (fun h => h HV.out), if_pos HSQ.out])
          clear kc9 kf9 HQ10 HALc HS6 HRW HSLS HM6 HSLc HHD
          generalize w9.setCell ⟨fb, 3, none⟩ (.slice (some ⟨g2, 0, none⟩) (p.rules.length + 1) cap2) = w10' at *
          have HC1 : Hid (∀ W, Below w10'.heap.size w10' W → Calls Tryz.prog 20 #[.agg #[.int .i64 p.n, .slice an p.names.length cn, .slice ah p.shown.length ch, .slice (some ⟨g2, 0, none⟩) (p.rules.length + 1) cap2, .slice am p.min.length cm], .slice aS S.length cS] W fun e' w' => e' = .returned (.bool (modelsB p S)) ∧ Below W.heap.size W w') := Lib.hid fun W hW =>
            (supported_any _ _ _ S _ (HP10.out.below hW) (HI10.out.below hW)).mono fun e w' ⟨h1, h2⟩ => ⟨by rw [decide_eq_true HVF.out, Bool.true_and, HSF.out, show setQ (addR p ⟨true, subL (-1) p.n.toNat, false, 0, [], []⟩).n S = true from HSQ.out, Bool.true_and] at h1; exact h1, h2⟩
          have HC2 : Hid (Calls Tryz.prog 27 #[.agg #[.int .i64 p.n, .slice an p.names.length cn, .slice ah p.shown.length ch, .slice (some ⟨b, off, none⟩) p.rules.length cr, .slice am p.min.length cm], .slice aS S.length cS] w10' fun e' w' => e' = .returned (.tuple #[.bool (modelsB p S), .int .i64 0]) ∧ Below w10'.heap.size w10' w') := Lib.hid
            ((models_any _ _ _ S _ HS10.out.prog HI10.out).mono fun e w' ⟨h1, h2⟩ => ⟨by rw [HCK.out] at h1; exact h1, h2⟩)
          have kx10 := HS10.out.box.cell
          have hz10 : w.heap.size < w10'.heap.size := HS10.out.box.lt
          obtain ⟨mo, hmo⟩ : ∃ mo, modelsB p S = mo := ⟨_, rfl⟩
          rw [hmo] at HC1 HC2
          clear hmo HSF HP10
          have hmm : (mo == mo) = true := by simp
          go_upto_region 13 with (go_at_call 27; (with_reducible refine (HC2.out).mono ?_); rintro e w11 ⟨rfl, hb11⟩; have HS11 := Lib.hid (HS10.out.on hb11); have HB11 := Lib.hid hb11; have kf11 := (HK10.out.below hb11).cell; clear hb11)
          go_wp2_with (first
            | (go_at_call 10; (with_reducible refine (awake26_any _).mono ?_); rintro e w13 ⟨rfl, hb13⟩; have HS13 := Lib.hid (HS12.out.on hb13); clear hb13)
            | (go_at_call 20; (with_reducible refine (HC1.out w11 HB11.out).mono ?_); rintro e w12 ⟨rfl, hb12⟩; have HS12 := Lib.hid (HS11.out.on hb12); clear hb12))
          go_ret
          exact ⟨rfl, HS13.out.below⟩

theorem more26_law {W : World} {vp : Value} {p : GP} (hP : ProgIs W vp p) (x : Int) (hx : (Lit.int .u8 x).wf = true) (y : Int) (hy : (Lit.int .u8 y).wf = true) :
    Calls Tryz.prog 6 #[vp, .int .u8 x, .int .u8 y] W fun e W' => e = .returned (.bool true) ∧ Below W.heap.size W W' :=
  mo26_walk vp p x y W hP (bounds_u8 hx) (bounds_u8 hy)

end Go.Proofs.YtoahecjdkgeamaaGreatDoor

/- The arguments of a statement, opened. -/
namespace Go.Proofs.YtoahecjdkgeamaaGreatDoor
open Go.RowKit Go.WideShapes

section
variable {H : Type} {enc : TypeId × Value → H} {w : World} {r : Reach} {b0 : Nat} {v : Value} {d : DataW H} {q : List MemPlace}

theorem arg_reads {P : Program} {t : TypeId} (h : DataW.Trod enc P w 0 (fun _ => true) true t v d q) (hw : ∀ m ∈ d.weights P t, m ≤ reachBytes) : Reads enc P w t v.cells.toList := by
  obtain ⟨fuel, hf⟩ := h
  exact ⟨fuel, _, hf, hw⟩

set_option maxRecDepth 100000 in
theorem arg_Prog (hv : Value.okWide Tryz.prog w r b0 27 v) (h : DataW.Trod enc Tryz.prog w 0 (fun _ => true) true 27 v d q) (hw : ∀ m ∈ d.weights Tryz.prog 27, m ≤ reachBytes) : ∃ p, ProgIs w v p := by
  obtain ⟨cs, rfl, -⟩ := okWide_struct Tryz.underlying27 hv
  have hr := arg_reads h hw
  obtain ⟨p, vn, vs, vr, vm, he, hp⟩ := open_Prog hr
  refine ⟨p, vn, vs, vr, vm, ?_, hp⟩
  have : cs.toList = [.int .i64 p.n, vn, vs, vr, vm] := by simpa [Value.cells] using he
  congr 1
  exact Array.toList_inj.1 this

end

end Go.Proofs.YtoahecjdkgeamaaGreatDoor
