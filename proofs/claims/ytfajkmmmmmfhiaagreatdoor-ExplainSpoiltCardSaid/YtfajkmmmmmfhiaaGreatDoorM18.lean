/- My texts Frame, merged. -/
import Derived.Test.YtfajkmmmmmfhiaaGreatDoorM17
import Derived.Test.YtfajkmmmmmfhiaaGreatDoorM00
import Derived.Test.YtfajkmmmmmfhiaaGreatDoorProg
import Derived.WalkKit
import Derived.Lib.Hide
import Derived.Deep.QuietTactic
import Derived.BigQuiet
import Derived.WalkSpells
import Derived.Lib.SliceRun
import Derived.MapKept
import Derived.Maps.OwnSet
import Derived.Maps.OwnOps
import Derived.ProofKit
import Derived.OpenShut
import Derived.ChangeArms
import Derived.SizedLaws

namespace Go.Proofs.YtfajkmmmmmfhiaaGreatDoor
open Go.RowKit Go.WideShapes
section
variable {H : Type} {enc : TypeId × Value → H} {w : World} {r : Reach} {b0 : Nat} {v : Value} {d : DataW H} {q : List MemPlace}
theorem arg_reads {P : Program} {t : TypeId} (h : DataW.Trod enc P w 0 (fun _ => true) true t v d q) (hw : ∀ m ∈ d.weights P t, m ≤ reachBytes) : Reads enc P w t v.cells.toList := by
  obtain ⟨fuel, hf⟩ := h
  exact ⟨fuel, _, hf, hw⟩
set_option maxRecDepth 100000 in
theorem arg_Prog (hv : Value.okWide Tryz.prog w r b0 27 v) (h : DataW.Trod enc Tryz.prog w 0 (fun _ => true) true 27 v d q) (hw : ∀ m ∈ d.weights Tryz.prog 27, m ≤ reachBytes) : ∃ p, ProgIs w v p := by
  obtain ⟨cs, rfl, -⟩ := okWide_struct Tryz.underlying27 hv
  have hr := arg_reads h hw
  obtain ⟨p, vn, vs, vr, vm, he, hp⟩ := open_Prog hr
  refine ⟨p, vn, vs, vr, vm, ?_, hp⟩
  have : cs.toList = [.int .i64 p.n, vn, vs, vr, vm] := by simpa [Value.cells] using he
  congr 1
  exact Array.toList_inj.1 this
end
end Go.Proofs.YtfajkmmmmmfhiaaGreatDoor
