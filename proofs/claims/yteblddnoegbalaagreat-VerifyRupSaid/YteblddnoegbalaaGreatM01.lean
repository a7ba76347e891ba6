/- My texts Perm, merged. -/
import Derived.Test.YteblddnoegbalaaGreatM00
import Derived.Test.YteblddnoegbalaaGreatProg
import Derived.WalkKit
import Derived.Lib.Hide
import Derived.Deep.QuietTactic
import Derived.BigQuiet

namespace Go.Proofs.YteblddnoegbalaaGreat
open Go.RowKit
section
variable {P : Program} {ops : Array Oper}
def dstOf (ops : Array Oper) (i : Nat) : Option Tmp := (ops[i]?).bind (·.dst)
def fr (ops : Array Oper) (vals : Nat → Value) (L : Nat → Bool) (a0 : Act) : Nat → Act
  | 0 => a0
  | k + 1 => if L k then (fr ops vals L a0 k).put (dstOf ops k) (vals k) else fr ops vals L a0 k
theorem fr_congr {vals vals' : Nat → Value} {L L' : Nat → Bool} {a0 : Act} : ∀ k, (∀ j, j < k → L j = L' j ∧ (L j = true → vals j = vals' j)) → fr ops vals L a0 k = fr ops vals' L' a0 k
  | 0, _ => rfl
  | k + 1, h => by
    obtain ⟨h1, h2⟩ := h k (by omega)
    unfold fr
    rw [fr_congr k (fun j hj => h j (by omega)), ← h1]
    split
    · rename_i hl; rw [h2 hl]
    · rfl
theorem fr_trunc {vals : Nat → Value} {L : Nat → Bool} {a0 : Act} (i : Nat) : ∀ k, i ≤ k → (∀ j, i ≤ j → j < k → L j = false) → fr ops vals L a0 k = fr ops vals L a0 i
  | 0, h, _ => by
    obtain rfl : i = 0 := by omega
    rfl
  | k + 1, h, hl => by
    rcases Nat.lt_or_ge k i with hlt | hge
    · obtain rfl : i = k + 1 := by omega
      rfl
    · show (if L k then _ else _) = _
      rw [hl k hge (by omega)]
      exact fr_trunc i k hge (fun j h1 h2 => hl j h1 (by omega))
theorem put_size (a : Act) (d : Option Tmp) (v : Value) : (a.put d v).tmps.size = a.tmps.size := by cases d <;> simp [Act.put]
def Agree (ops : Array Oper) (o : Oper) (a b : Act) : Prop := a.tmps.size = b.tmps.size ∧ ∀ t, t ∈ o.looksAt ops → a.tmps[t]? = b.tmps[t]?
theorem Agree.symm {o : Oper} {a b : Act} (h : Agree ops o a b) : Agree ops o b a := ⟨h.1.symm, fun t ht => (h.2 t ht).symm⟩
theorem agree_fold {o : Oper} {vx vy : Nat → Value} {Lx Ly : Nat → Bool} {a0 : Act} : ∀ k,
    (∀ j, j < k → (Lx j = Ly j ∧ (Lx j = true → vx j = vy j)) ∨ (∀ d, dstOf ops j = some d → d ∉ o.looksAt ops)) → Agree ops o (fr ops vx Lx a0 k) (fr ops vy Ly a0 k)
  | 0, _ => ⟨rfl, fun _ _ => rfl⟩
  | k + 1, h => by
    obtain ⟨i1, i2⟩ := agree_fold (a0 := a0) k (fun j hj => h j (by omega))
    have hput : ∀ (a : Act) (v : Value), (∀ d, dstOf ops k = some d → d ∉ o.looksAt ops) → ∀ t, t ∈ o.looksAt ops → (a.put (dstOf ops k) v).tmps[t]? = a.tmps[t]? := by
      intro a v hd t ht
      cases hk : dstOf ops k with
      | none => rfl
      | some d =>
        have hne : d ≠ t := fun e => hd d hk (e ▸ ht)
        simp [Act.put, Array.getElem?_setIfInBounds_ne hne]
    unfold fr
    rcases h k (by omega) with ⟨h1, h2⟩ | h1
    · rw [← h1]
      split
      · rename_i hl
        rw [h2 hl]
        refine ⟨by simp [put_size, i1], fun t ht => ?_⟩
        cases hk : dstOf ops k with
        | none => exact i2 t ht
        | some d =>
          by_cases hd : d = t
          · subst hd
            simp [Act.put, Array.getElem?_setIfInBounds, i1]
          · simp only [Act.put, Array.getElem?_setIfInBounds_ne hd]
            exact i2 t ht
      · exact ⟨i1, i2⟩
    · refine ⟨?_, fun t ht => ?_⟩
      · split <;> split <;> simp [put_size, i1]
      · split <;> split <;> simp only [hput _ _ h1 t ht, i2 t ht]
theorem Agree.eval {o : Oper} {a b : Act} (h : Agree ops o a b) : ∀ x ∈ o.op.operands, a.eval x = b.eval x := by
  intro x hx
  cases x with
  | tmp t =>
    have := h.2 t (List.mem_append_left _ (List.mem_filterMap.2 ⟨.tmp t, by simpa using hx, rfl⟩))
    simp [Act.eval, this]
  | _ => rfl
theorem Agree.wanted {o : Oper} {a b : Act} (h : Agree ops o a b) : Region.wanted o (yielded ops a.tmps) = Region.wanted o (yielded ops b.tmps) := by
  unfold Region.wanted
  cases hg : o.guard with
  | none => rfl
  | some gw =>
    obtain ⟨g, want⟩ := gw
    have hy : yielded ops a.tmps g = yielded ops b.tmps g := by
      unfold yielded
      cases ht : (ops[g]?).bind (·.dst) with
      | none => rfl
      | some t =>
        have := h.2 t (by simp [Oper.looksAt, hg, ht])
        simp [this]
    simp only [hy]
def detUpon (w : World) (v : Value) : Result Next → Prop
  | .ok (.value u) w' => w' = w ∧ u = v
  | .ok .skip w' => w' = w ∧ v = undef
  | _ => False
def memUpon (P : Program) (R : Value → World → Prop) : Result Next → Prop
  | .ok (.value u) w' => R u w'
  | .ok (.enter f args) w' => Calls P f args w' (fun e w'' => ∃ v, e = .returned v ∧ R v w'')
  | _ => False
def DetStep (P : Program) (ops : Array Oper) (o : Oper) (a : Act) (w : World) (v : Value) : Prop :=
  if Region.wanted o (yielded ops a.tmps) then detUpon w v ((execOp a.eval o).run P w) else v = undef
def MemStep (P : Program) (ops : Array Oper) (o : Oper) (a : Act) (w : World) (R : Value → World → Prop) : Prop :=
  Region.wanted o (yielded ops a.tmps) = true ∧ memUpon P R ((execOp a.eval o).run P w)
theorem DetStep.unique {o : Oper} {a : Act} {w : World} {v v' : Value} (h : DetStep P ops o a w v) (h' : DetStep P ops o a w v') : v = v' := by
  unfold DetStep at *
  split at h
  · rename_i hw
    rw [if_pos hw] at h'
    generalize (execOp a.eval o).run P w = r at *
    cases r with
    | ok n w' => cases n <;> simp only [detUpon] at h h' <;> first | exact h.2.symm.trans h'.2 | exact h.2.trans h'.2.symm
    | halt x w' => simp only [detUpon] at h
  · rename_i hw
    rw [if_neg hw] at h'
    rw [h, h']
theorem DetStep.agree {o : Oper} (hs : ∀ cs b, o.op ≠ .select cs b) {a b : Act} (h : Agree ops o a b) {w : World} {v : Value} (hd : DetStep P ops o a w v) : DetStep P ops o b w v := by
  unfold DetStep at *
  rw [← h.wanted, ← execOp_congr o hs h.eval]
  exact hd
theorem MemStep.agree {o : Oper} (hs : ∀ cs b, o.op ≠ .select cs b) {a b : Act} (h : Agree ops o a b) {w : World} {R : Value → World → Prop} (hd : MemStep P ops o a w R) : MemStep P ops o b w R := by
  unfold MemStep at *
  rw [← h.wanted, ← execOp_congr o hs h.eval]
  exact hd
theorem Calls.some {f : FuncId} {args : Array Value} {w : World} {R : Ending → World → Prop} (h : Calls P f args w R) : ∃ e w', R e w' :=
  let ⟨e, w', _, hR, _⟩ := h []
  ⟨e, w', hR⟩
theorem MemStep.some {o : Oper} {a : Act} {w : World} {R : Value → World → Prop} (h : MemStep P ops o a w R) : ∃ v w', R v w' := by
  obtain ⟨_, h⟩ := h
  generalize (execOp a.eval o).run P w = r at *
  cases r with
  | ok n w' =>
    cases n <;> simp only [memUpon] at h
    case value u => exact ⟨u, w', h⟩
    case enter f args =>
      obtain ⟨e, w'', v, _, hR⟩ := Calls.some h
      exact ⟨v, w'', hR⟩
  | halt x w' => simp only [memUpon] at h
theorem wpOp_of_det {Q : Exit → Act → World → Prop} {i : Nat} {o : Oper} {a : Act} {w : World} {v : Value} {K : Act → World → Prop} (ho : ops[i]? = some o) (h : DetStep P ops o a w v) (hK : K (a.put o.dst v) w) : wpOp P ops Q i K a w := by
  unfold wpOp
  simp only [ho]
  unfold DetStep at h
  split
  · rename_i hw
    rw [if_pos hw] at h
    refine .inl ?_
    unfold Oper.wp
    generalize (execOp a.eval o).run P w = r at *
    cases r with
    | ok n w' =>
      cases n <;> simp only [detUpon] at h <;> simp only [Oper.upon]
      · rw [h.1, h.2]; exact hK
      · rw [h.1, ← h.2]; exact hK
    | halt x w' => simp only [detUpon] at h
  · rename_i hw
    rw [if_neg hw] at h
    rw [← h]; exact hK
theorem wpOp_of_mem {Q : Exit → Act → World → Prop} {i : Nat} {o : Oper} {a : Act} {w : World} {R : Value → World → Prop} {K : Act → World → Prop} (ho : ops[i]? = some o) (h : MemStep P ops o a w R) (hK : ∀ v w', R v w' → K (a.put o.dst v) w') : wpOp P ops Q i K a w := by
  obtain ⟨hw, h⟩ := h
  unfold wpOp
  simp only [ho, hw, if_true]
  refine .inl ?_
  unfold Oper.wp
  generalize (execOp a.eval o).run P w = r at *
  cases r with
  | ok n w' =>
    cases n <;> simp only [memUpon] at h <;> simp only [Oper.upon]
    case value u => exact hK _ _ h
    case enter f args => exact h.mono fun e w'' ⟨v, he, hR⟩ => by subst he; exact hK _ _ hR
  | halt x w' => simp only [memUpon] at h
def argsOf (o : Oper) (a : Act) : List Value := o.op.operands.toList.map a.eval
theorem Agree.args {o : Oper} {a b : Act} (h : Agree ops o a b) : argsOf o a = argsOf o b :=
  List.map_congr_left fun x hx => h.eval x (by simpa using hx)
def walkP (P : Program) (ops : Array Oper) (w0 : World) (Cl : Nat → World → Prop) (Φ : Nat → List Value → Value → Nat → Nat → World → Prop) (ism : Nat → Bool) (D : Nat → Nat → Bool) (E : Act → World → Prop) : List Oper → Nat → Act → List (Nat × (World → Prop)) → List (Nat × Nat) → Prop
  | [], _, a, F, I => ∀ w, Below w0.heap.size w0 w → (∀ p ∈ F, p.2 w) → (∀ q ∈ I, q.2 ≤ w.heap.size) → I.Pairwise (fun p q => p.2 ≤ q.1 ∨ q.2 ≤ p.1) → E a w
  | o :: rest, i, a, F, I =>
    if ism i then
      (∀ w, Below w0.heap.size w0 w → (∀ p ∈ F, D i p.1 = true → p.2 w) → MemStep P ops o a w (fun v w' => Below w.heap.size w w' ∧ Φ i (argsOf o a) v w.heap.size w'.heap.size w')) ∧
      ∀ v lo hi, w0.heap.size ≤ lo → lo ≤ hi → (∃ w, Φ i (argsOf o a) v lo hi w) → walkP P ops w0 Cl Φ ism D E rest (i + 1) (a.put o.dst v) ((i, Φ i (argsOf o a) v lo hi) :: F) ((lo, hi) :: I)
    else ∃ v, (∀ w, Cl i w → DetStep P ops o a w v) ∧ walkP P ops w0 Cl Φ ism D E rest (i + 1) (a.put o.dst v) F I
def tame (o : Oper) : Bool := match o.op with
  | .move _ | .assign _ | .pick .. | .load .. | .binOp .. | .unOp .. | .fieldAddr .. | .field .. | .indexAddr .. | .index .. | .build .. | .lookup .. | .slice .. | .extract .. | .makeInterface .. | .convert .. | .makeFunc .. | .nilCheck .. => true
  | .store .. | .mapUpdate .. | .insert .. | .mapEntry .. | .entryStore .. | .box .. | .alloc .. | .buildSlice .. | .makeMap .. | .makeSlice .. => true
  | .call { callee := .builtin .len, .. } | .call { callee := .builtin .min, .. } | .call { callee := .builtin .max, .. } | .call { callee := .builtin .append, .. } | .call { callee := .builtin .copy, .. } | .call { callee := .builtin .delete, .. } => true
  | _ => false
theorem run_v {P : Program} (s : Sem Value) (w : World) : (∃ v w', (do pure (Next.value (← s)) : Sem Next).run P w = .ok (.value v) w') ∨ (∃ w', (do pure (Next.value (← s)) : Sem Next).run P w = .ok .skip w') ∨ ∃ x w', (do pure (Next.value (← s)) : Sem Next).run P w = .halt x w' := by
  simp only [Sem.run_bind, Sem.run_pure]
  cases s.run P w with
  | ok v w' => exact .inl ⟨v, w', rfl⟩
  | halt x w' => exact .inr (.inr ⟨x, w', rfl⟩)
theorem run_u {P : Program} (s : Sem Unit) (w : World) : (∃ v w', (do s; pure Next.skip : Sem Next).run P w = .ok (.value v) w') ∨ (∃ w', (do s; pure Next.skip : Sem Next).run P w = .ok .skip w') ∨ ∃ x w', (do s; pure Next.skip : Sem Next).run P w = .halt x w' := by
  simp only [Sem.run_bind, Sem.run_pure]
  cases s.run P w with
  | ok v w' => exact .inr (.inl ⟨w', rfl⟩)
  | halt x w' => exact .inr (.inr ⟨x, w', rfl⟩)
theorem tame_run {P : Program} {o : Oper} (h : tame o = true) (ρ : Operand → Value) (w : World) : (∃ v w', (execOp ρ o).run P w = .ok (.value v) w') ∨ (∃ w', (execOp ρ o).run P w = .ok .skip w') ∨ ∃ x w', (execOp ρ o).run P w = .halt x w' := by
  obtain ⟨dst, op, type, pos, after, guard⟩ := o
  cases op <;> simp only [tame, Bool.false_eq_true] at h <;> simp only [execOp]
  case call c =>
    obtain ⟨callee, xs, ts⟩ := c
    cases callee
    case builtin b =>
      have hb : execOp ρ { dst := dst, op := .call { callee := .builtin b, args := xs, argTypes := ts }, type := type, pos := pos, after := after, guard := guard } = builtin b ts type (xs.map fun | .const _ => true | _ => false) (xs.map ρ) := rfl
      simp only [execOp] at hb
      rw [hb]
      cases b <;> first | (exact run_v _ _) | (exact absurd h Bool.false_ne_true)
    all_goals exact absurd h Bool.false_ne_true
  case pick c x y =>
    simp only [Sem.run_bind, Sem.run_pure]
    cases (asBool (ρ c)).run P w with
    | ok v w' => exact .inl ⟨_, w', rfl⟩
    | halt x w' => exact .inr (.inr ⟨x, w', rfl⟩)
  case nilCheck x =>
    split
    · exact .inr (.inr ⟨_, _, rfl⟩)
    · exact .inr (.inr ⟨_, _, rfl⟩)
    · exact .inr (.inr ⟨_, _, rfl⟩)
    · split
      · exact .inr (.inr ⟨_, _, rfl⟩)
      · simp only [Sem.run_bind]
        generalize Sem.run P program w = r1
        cases r1 with
        | halt x w' => exact .inr (.inr ⟨x, w', rfl⟩)
        | ok v w' =>
          simp only [Result.andThen_ok]
          generalize Sem.run P (nilAhead _ _ _ _) w' = r2
          cases r2 with
          | halt x w' => exact .inr (.inr ⟨x, w', rfl⟩)
          | ok v w' =>
            simp only [Result.andThen_ok]
            split
            · exact .inr (.inr ⟨_, _, rfl⟩)
            · exact .inl ⟨_, _, rfl⟩
      · exact .inl ⟨_, _, rfl⟩
    · exact .inl ⟨_, _, rfl⟩
  all_goals first
    | exact run_v _ _
    | exact run_u _ _
    | exact .inl ⟨_, _, rfl⟩
def tailW (P : Program) (ops : Array Oper) (C' : World → Prop) (Q : Exit → Act → World → Prop) : List Oper → Act → World → Prop
  | [], a, w => Q .normal a w
  | o :: rest, a, w => Region.wanted o (yielded ops a.tmps) = true ∧ tame o = true ∧ o.wp P a w (fun a' w' => C' w' ∧ tailW P ops C' Q rest a' w') (fun _ _ _ => False)
theorem wp_agree {o : Oper} (hs : ∀ cs b, o.op ≠ .select cs b) (ht : tame o = true) {a b : Act} (h : Agree ops o a b) {w : World} {K : Act → World → Prop} {Q : Exit → Act → World → Prop} (hw : o.wp P a w K (fun _ _ _ => False)) :
    o.wp P b w (fun b' w' => ∃ v, b' = b.put o.dst v ∧ K (a.put o.dst v) w') Q := by
  unfold Oper.wp at *
  have hr := tame_run (P := P) ht a.eval w
  rw [← execOp_congr o hs h.eval]
  generalize (execOp a.eval o).run P w = r at *
  rcases hr with ⟨v, w', rfl⟩ | ⟨w', rfl⟩ | ⟨x, w', rfl⟩
  · exact ⟨v, rfl, hw⟩
  · exact ⟨undef, rfl, hw⟩
  · cases x <;> simp only [Oper.upon] at hw
def dm (m : List Nat) (i j : Nat) : Bool := (m.getD i 0).testBit j
def chk (ops : Array Oper) (m : List Nat) : Bool :=
  Region.noSelect ops && (List.range ops.size).all fun i => match ops[i]? with
    | none => true
    | some o =>
      (o.after.all fun e => !Region.binds .any e || (decide (e.on < i) && dm m i e.on)) &&
      ((List.range ops.size).all fun j => (!dm m i j || (decide (j < i) && ((List.range ops.size).all fun k => !dm m j k || dm m i k) && o.after.any fun e => Region.binds .any e && (e.on == j || dm m e.on j))) && (decide (i ≤ j) || dm m i j || match ops[j]? with | some oj => o.apart ops oj | none => true))
structure Chk (ops : Array Oper) (D : Nat → Nat → Bool) : Prop where
  sel : ∀ (j : Nat) (o : Oper) cs b, ops[j]? = some o → o.op ≠ .select cs b
  edge : ∀ (i : Nat) (o : Oper), ops[i]? = some o → ∀ e ∈ o.after, Region.binds .any e = true → e.on < i ∧ D i e.on = true
  lt : ∀ i j, i < ops.size → j < ops.size → D i j = true → j < i
  trans : ∀ i j k, i < ops.size → j < ops.size → k < ops.size → D i j = true → D j k = true → D i k = true
  gen : ∀ (i : Nat) (o : Oper), ops[i]? = some o → ∀ j, j < ops.size → D i j = true → ∃ e ∈ o.after, Region.binds .any e = true ∧ (e.on = j ∨ D e.on j = true)
  apart : ∀ (i j : Nat) (oi oj : Oper), ops[i]? = some oi → ops[j]? = some oj → j < i → D i j = false → oi.apart ops oj = true
theorem chk_spec {m : List Nat} (h : chk ops m = true) : Chk ops (dm m) := by
  unfold chk at h
  simp only [Bool.and_eq_true, List.all_eq_true, List.mem_range] at h
  obtain ⟨hs, h⟩ := h
  have one : ∀ (i : Nat) (o : Oper), ops[i]? = some o → _ := fun i o ho => by
    have hi : i < ops.size := (Array.getElem?_eq_some_iff.1 ho).1
    have := h i hi
    rw [ho] at this
    simp only [Bool.and_eq_true, List.all_eq_true, List.mem_range, Array.all_eq_true_iff_forall_mem, Bool.or_eq_true, Bool.not_eq_true', decide_eq_true_eq] at this
    exact this
  refine ⟨fun j o cs b ho => Region.noSelect_spec hs j o cs b ho, fun i o ho e he hb => ?_, fun i j hi hj hd => ?_, fun i j k hi hj hk h1 h2 => ?_, fun i o ho j hj hd => ?_, fun i j oi oj hoi hoj hji hd => ?_⟩
  · rcases (one i o ho).1 e he with h1 | h1
    · rw [hb] at h1; cases h1
    · exact h1
  · obtain ⟨o, ho⟩ : ∃ o, ops[i]? = some o := ⟨_, Array.getElem?_eq_getElem hi⟩
    rcases ((one i o ho).2 j hj).1 with h1 | h1
    · rw [hd] at h1; cases h1
    · exact h1.1.1
  · obtain ⟨o, ho⟩ : ∃ o, ops[i]? = some o := ⟨_, Array.getElem?_eq_getElem hi⟩
    rcases ((one i o ho).2 j hj).1 with h3 | h3
    · rw [h1] at h3; cases h3
    · rcases h3.1.2 k hk with h4 | h4
      · rw [h2] at h4; cases h4
      · exact h4
  · rcases ((one i o ho).2 j hj).1 with h1 | h1
    · rw [hd] at h1; cases h1
    · obtain ⟨e, he, hb⟩ := Array.any_eq_true'.1 h1.2
      simp only [Bool.and_eq_true, Bool.or_eq_true, beq_iff_eq] at hb
      exact ⟨e, he, hb.1, hb.2⟩
  · have hj : j < ops.size := (Array.getElem?_eq_some_iff.1 hoj).1
    rcases ((one i oi hoi).2 j hj).2 with (h1 | h1) | h1
    · omega
    · rw [hd] at h1; cases h1
    · rw [hoj] at h1; exact h1
end
end Go.Proofs.YteblddnoegbalaaGreat
