/- Single operations in the form that the tail of a drawn region wants. -/
import Derived.Test.YtkjpnpkmnpofgaaPool
import Derived.Test.YtkjpnpkmnpofgaaPerm4
import Derived.Deep.AppendLies
namespace Go.Proofs.Ytkjpnpkmnpofgaa
open Go.RowKit

theorem infoR : (Try.prog.info? 44).map (fun i => (i.zero, i.size, i.bytes)) = some (some (.agg #[.bool false, .slice none 0 0, .bool false, .int .i64 0, .slice none 0 0, .slice none 0 0]), 6, 96) := by kernel_rfl

theorem newsOf {w : World} {g : Nat} {c : List Value} {t : TypeId} (h : Blk w g c t) : ∀ j u, c[j]? = some u → w.cell? ((⟨g, 0, none⟩ : Addr).add j) = some u := by
  have := World.news_of_block (w := w) (B := g) (cs := c.toArray) (t := t) (fr := (0, 0)) h
  simpa using this

/-- append of one int to a row of the call's own. -/
theorem wp_appendI {o : Oper} {a : Act} {w : World} {K : Act → World → Prop} {Q : Exit → Act → World → Prop} (s x : Operand) (T : TypeId) (hT : Try.prog.underlying T = some (.slice 3))
    (ho : o.op = .call { callee := .builtin .append, args := #[s, x], argTypes := #[T, T] }) (base : Nat) (v : Value) (l : List Int) (k : Int) (hs : a.eval s = v) (hown : OwnI base w v l)
    (g0 c : Nat) (hx : a.eval x = .slice (some ⟨g0, 0, none⟩) 1 c) (hb : Blk w g0 [.int .i64 k] 3) (hlen : (l.length + 1) * 8 ≤ 140737488351232) (hbase : base ≤ w.heap.size)
    (h : ∀ g cap w', w'.ownsRow base 3 1 (.slice (some ⟨g, 0, none⟩) (l.length + 1) cap) (l.length + 1) ((List.range l.length).map (fun i => Value.int .i64 (ix l i)) ++ [.int .i64 k]) → w.grownBy w' v.ownBlock →
      (v.ownBlock = some g ∨ g = w.heap.size) → g < w'.heap.size → K (a.put o.dst (.slice (some ⟨g, 0, none⟩) (l.length + 1) cap)) w') : o.wp Try.prog a w K Q := by
  have hi := infoI
  obtain ⟨i, hi, he⟩ := Option.map_eq_some_iff.1 hi
  simp only [Prod.mk.injEq] at he
  refine wp_append_lies w s x T ho base 3 i (.int .i64 0) 1 8 hT hi he.1 he.2.1 he.2.2 rfl (by decide) v l.length _ hs hown.1.1 ⟨g0, 0, none⟩ 1 c [.int .i64 k] hx rfl (newsOf hb) (by simp [Value.oneCell']) (by omega) (by unfold maxLen; omega) (by omega) hbase _ rfl ?_
  exact h

/-- append of one rule to a row of the call's own. -/
theorem wp_appendR {o : Oper} {a : Act} {w : World} {K : Act → World → Prop} {Q : Exit → Act → World → Prop} (s x : Operand) (T : TypeId) (hT : Try.prog.underlying T = some (.slice 44))
    (ho : o.op = .call { callee := .builtin .append, args := #[s, x], argTypes := #[T, T] }) (base : Nat) (v : Value) (L : List RQ) (q : RQ) (hs : a.eval s = v) (hown : w.ownsRow base 44 6 v L.length (L.flatMap cells6))
    (g0 c : Nat) (hx : a.eval x = .slice (some ⟨g0, 0, none⟩) 1 c) (hb : Blk w g0 (cells6 q) 44) (h1 : ∀ u ∈ cells6 q, u.oneCell' = true) (hlen : (L.length + 1) * 96 ≤ 140737488351232) (hbase : base ≤ w.heap.size)
    (h : ∀ g cap w', w'.ownsRow base 44 6 (.slice (some ⟨g, 0, none⟩) (L.length + 1) cap) (L.length + 1) (L.flatMap cells6 ++ cells6 q) → w.grownBy w' v.ownBlock →
      (v.ownBlock = some g ∨ g = w.heap.size) → g < w'.heap.size → K (a.put o.dst (.slice (some ⟨g, 0, none⟩) (L.length + 1) cap)) w') : o.wp Try.prog a w K Q := by
  have hi := infoR
  obtain ⟨i, hi, he⟩ := Option.map_eq_some_iff.1 hi
  simp only [Prod.mk.injEq] at he
  refine wp_append_lies w s x T ho base 44 i _ 6 96 hT hi he.1 he.2.1 he.2.2 rfl (by decide) v L.length _ hs hown ⟨g0, 0, none⟩ 1 c (cells6 q) hx rfl (newsOf hb) h1 (by omega) (by unfold maxLen; omega) (by omega) hbase _ rfl ?_
  exact h

/-- A store in a map. -/
theorem wp_mput {κ : Type} [DecidableEq κ] {kv : κ → Value} {d : TypeDesc} {P : Program} {o : Oper} {a : Act} {w : World} {K : Act → World → Prop} {Q : Exit → Act → World → Prop} {g : κ → Option Value} (b : Nat) (k : κ) (v : Value) (V : KV kv d) (t kt et : TypeId) (ht : P.underlying t = some (.map kt et)) (hd : P.underlying kt = some d)
    (m x y : Operand) (hop : o.op = Op.mapUpdate t m x y) (hm : a.eval m = .map (some b)) (hx : a.eval x = kv k) (hy : a.eval y = v) (h : MapIs kv w b g)
    (hK : ∀ w', MapIs kv w' b (upd g k (some v)) → w.grownBy w' (some b) → w'.heap.size = w.heap.size → K (a.put o.dst undef) w') : o.wp P a w K Q := by
  obtain ⟨w', hrun, r1, r2, r3⟩ := h.update V ht hd k v
  unfold Oper.wp
  simp [execOp, hop, hm, hx, hy, hrun, Result.andThen]
  exact hK w' r1 r2 r3

/-! ### The head of a region with a tail -/
section
variable {P : Program} {ops : Array Oper} {w0 : World} {C' : World → Prop} {Φ : Nat → List Value → Value → Nat → Nat → World → Prop} {ism : Nat → Bool} {D : Nat → Nat → Bool} {E : Act → World → Prop} {a : Act} {o : Oper} {rest : List Oper} {i n : Nat} {F : List (Nat × (World → Prop))} {I : List (Nat × Nat)} {l : List Oper} {m : List Nat}

theorem walkP_head (hl : lateB l (dm m) n i = false) (hi : ism i = false) (hc : calm o = true) (hw : Region.wanted o (yielded ops a.tmps) = true)
    (h : ∀ K : Act → Prop, (∀ a, walkP P ops w0 (fun i w' => if lateB l (dm m) n i then C' w' else ∃ e : Ext w0, w' = e.world) Φ ism D E rest (i + 1) a F I → K a) → o.quiet P a (fun w' => ∃ e : Ext w0, w' = e.world) K) :
    walkP P ops w0 (fun i w' => if lateB l (dm m) n i then C' w' else ∃ e : Ext w0, w' = e.world) Φ ism D E (o :: rest) i a F I :=
  walkP_calm hi hc hw fun K hK => by
    have e : (fun w' => if lateB l (dm m) n i then C' w' else ∃ e : Ext w0, w' = e.world) = fun w' => ∃ e : Ext w0, w' = e.world := by
      funext w'; rw [if_neg (by rw [hl]; exact Bool.false_ne_true)]
    show o.quiet P a (fun w' => if lateB l (dm m) n i then C' w' else ∃ e : Ext w0, w' = e.world) K
    rw [e]
    exact h K hK

theorem walkP_late (hl : lateB l (dm m) n i = true) (hi : ism i = false) (hc : calm o = true) (hw : Region.wanted o (yielded ops a.tmps) = true)
    (h : ∀ K : Act → Prop, (∀ a, walkP P ops w0 (fun i w' => if lateB l (dm m) n i then C' w' else ∃ e : Ext w0, w' = e.world) Φ ism D E rest (i + 1) a F I → K a) → o.quiet P a C' K) :
    walkP P ops w0 (fun i w' => if lateB l (dm m) n i then C' w' else ∃ e : Ext w0, w' = e.world) Φ ism D E (o :: rest) i a F I :=
  walkP_calm hi hc hw fun K hK => by
    have e : (fun w' => if lateB l (dm m) n i then C' w' else ∃ e : Ext w0, w' = e.world) = C' := by
      funext w'; rw [if_pos hl]
    show o.quiet P a (fun w' => if lateB l (dm m) n i then C' w' else ∃ e : Ext w0, w' = e.world) K
    rw [e]
    exact h K hK

end

/-- The worlds in which block b is as in w. -/
structure KeepB (w : World) (b : Nat) where
  world : World
  cell : ∀ o, world.cell? ⟨b, o, none⟩ = w.cell? ⟨b, o, none⟩

instance instKeepB (w : World) (b : Nat) : Nonempty (KeepB w b) := ⟨⟨w, fun _ => rfl⟩⟩

end Go.Proofs.Ytkjpnpkmnpofgaa
