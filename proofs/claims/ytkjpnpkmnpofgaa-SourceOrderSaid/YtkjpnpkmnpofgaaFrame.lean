/- The arguments of a statement, opened. -/
import Derived.Test.YtkjpnpkmnpofgaaRows8
namespace Go.Proofs.Ytkjpnpkmnpofgaa
open Go.RowKit Go.WideShapes

section
variable {H : Type} {enc : TypeId × Value → H} {w : World} {r : Reach} {b0 : Nat} {v : Value} {d : DataW H} {q : List MemPlace}

theorem arg_reads {P : Program} {t : TypeId} (h : DataW.Trod enc P w 0 (fun _ => true) true t v d q) (hw : ∀ m ∈ d.weights P t, m ≤ reachBytes) : Reads enc P w t v.cells.toList := by
  obtain ⟨fuel, hf⟩ := h
  exact ⟨fuel, _, hf, hw⟩

set_option maxRecDepth 100000 in
theorem arg_Prog (hv : Value.okWide Try.prog w r b0 27 v) (h : DataW.Trod enc Try.prog w 0 (fun _ => true) true 27 v d q) (hw : ∀ m ∈ d.weights Try.prog 27, m ≤ reachBytes) : ∃ p, ProgIs w v p := by
  obtain ⟨cs, rfl, -⟩ := okWide_struct Try.underlying27 hv
  have hr := arg_reads h hw
  obtain ⟨p, vn, vs, vr, vm, he, hp⟩ := open_Prog hr
  refine ⟨p, vn, vs, vr, vm, ?_, hp⟩
  have : cs.toList = [.int .i64 p.n, vn, vs, vr, vm] := by simpa [Value.cells] using he
  congr 1
  exact Array.toList_inj.1 this

set_option maxRecDepth 100000 in
theorem arg_Rows8 (hv : Value.okWide Try.prog w r b0 28 v) (h : DataW.Trod enc Try.prog w 0 (fun _ => true) true 28 v d q) (hw : ∀ m ∈ d.weights Try.prog 28, m ≤ reachBytes) : ∃ l, Rows8 w v l := by
  obtain ⟨a, n, c, rfl⟩ := okWide_slice Try.underlying28 hv
  have hr := arg_reads h hw
  obtain ⟨v', l, he, hp⟩ := open_Rows8 hr
  have : Value.slice a n c = v' := by simpa [Value.cells] using he
  subst this
  exact ⟨l, hp⟩

set_option maxRecDepth 100000 in
theorem arg_Bytes8 (hv : Value.okWide Try.prog w r b0 39 v) (h : DataW.Trod enc Try.prog w 0 (fun _ => true) true 39 v d q) (hw : ∀ m ∈ d.weights Try.prog 39, m ≤ reachBytes) : ∃ l, Bytes8 w v l := by
  obtain ⟨a, n, c, rfl⟩ := okWide_slice Try.underlying39 hv
  have hr := arg_reads h hw
  obtain ⟨v', l, he, hp⟩ := open_Bytes8 hr
  have : Value.slice a n c = v' := by simpa [Value.cells] using he
  subst this
  exact ⟨l, hp⟩
end

end Go.Proofs.Ytkjpnpkmnpofgaa
