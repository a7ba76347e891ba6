/- A region that draws its order and holds calls that make memory: one walk serves every order, in the class of the worlds that keep what lay before. -/
import Derived.Test.YtkjpnpkmnpofgaaBase
namespace Go.Proofs.Ytkjpnpkmnpofgaa
open Go.RowKit

/-- A world in which what lay in w lies unturned. -/
structure Ext (w : World) where
  world : World
  below : Below w.heap.size w world

instance instExt (w : World) : Nonempty (Ext w) := ⟨⟨w, Below.refl _ _⟩⟩

theorem Ext.cell {w : World} (e : Ext w) (b o : Nat) (h : b < w.heap.size) : e.world.cell? ⟨b, o, none⟩ = w.cell? ⟨b, o, none⟩ := bcell e.below b o h

theorem wp_region_ext {P : Program} {id : Nat} {Q : Exit → Act → World → Prop} {a : Act} {w : World} {l : List Oper} (hm : P.follows .mixedOrders = true) (hB : Region.lexB .any l.toArray = true)
    (h : wpQuiet P l.toArray (fun w' => ∃ e : Ext w, w' = e.world) (fun a' => ∀ w', (∃ e : Ext w, w' = e.world) → Q .normal a' w') l a) : (Code.region id l.toArray true).wp P Q a w :=
  wp_region_quiet (C := fun w' => ∃ e : Ext w, w' = e.world) hm hB ⟨⟨_, (Below.refl _ w).drew⟩, rfl⟩ (by simpa using h)

theorem Calls.ext_of {P : Program} {f : FuncId} {args : Array Value} {w : World} {e : Ext w} {v : Value}
    (h : Calls P f args e.world fun x w' => x = .returned v ∧ Below e.world.heap.size e.world w') : Calls P f args e.world fun x w'' => x = .returned v ∧ ∃ e2 : Ext w, w'' = e2.world :=
  h.mono fun _ _ ⟨he, hb⟩ => ⟨he, ⟨_, bon e.below hb⟩, rfl⟩

theorem Calls.ext_of_same {P : Program} {f : FuncId} {args : Array Value} {w : World} {e : Ext w} {v : Value}
    (h : Calls P f args e.world fun x w' => x = .returned v ∧ e.world = w') : Calls P f args e.world fun x w'' => x = .returned v ∧ ∃ e2 : Ext w, w'' = e2.world :=
  h.mono fun _ _ ⟨he, hb⟩ => ⟨he, e, hb.symm⟩

end Go.Proofs.Ytkjpnpkmnpofgaa
