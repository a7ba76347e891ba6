/- My texts Pool, Rounds2, FrameS, ShT, Pt41, Ew41, FrameM, merged. -/
import Derived.Test.YtgakoainjgjimaaGreatDoorM00
import Derived.Test.YtgakoainjgjimaaGreatDoorProg
import Derived.WalkKit
import Derived.Lib.Hide
import Derived.Deep.QuietTactic
import Derived.BigQuiet
import Derived.WalkSpells
import Derived.Lib.SliceRun
import Derived.MapKept
import Derived.Maps.OwnSet
import Derived.Maps.OwnOps
import Derived.Test.YtgakoainjgjimaaGreatDoorM06
import Derived.Test.YtgakoainjgjimaaGreatDoorM04
import Derived.Test.YtgakoainjgjimaaGreatDoorM03
import Derived.Lib.Bytealg
import Derived.Test.YtgakoainjgjimaaGreatDoorM02
import Derived.Test.YtgakoainjgjimaaGreatDoorM01
import Derived.Deep.AppendLies
import Derived.Deep.DeepCutAuto
import Derived.Deep.OwnRows
import Derived.Deep.LoopGhost
import Derived.Test.YtgakoainjgjimaaGreatDoorM19
import Derived.Test.YtgakoainjgjimaaGreatDoorM14
import Derived.Test.YtgakoainjgjimaaGreatDoorM09
import Derived.Test.YtgakoainjgjimaaGreatDoorM07
import Derived.Test.YtgakoainjgjimaaGreatDoorM05
import Derived.Laws.EntriesVeiled
import Derived.Deep.RegionWith
import Derived.RangeFuncNested
import Derived.RangeFuncBound
import Derived.RangeFuncCalls
import Derived.RangeFuncLeaves
import Derived.OwnWalkIn
import Derived.TacticsInMore
import Derived.LoopNIn
import Derived.LoopIn
import Derived.Stop.RegionWithIn
import Derived.Shelf.Abstract
import Derived.Deep.DrawnRows
import Derived.Shelf.Sort.Plain
import Derived.Shelf.Slices.CompactI
import Derived.Shelf.Slices.In.SortNone
import Derived.Shelf.Strconv.Itoa3
import Derived.Shelf.Strings.BuilderK
import Derived.Shelf.Slices.SearchI
import Derived.Shelf.Slices.Empties
import Derived.Lib.ItoaNum
import Derived.Lib.ItoaLen
import Derived.Lib.AppendIntMem
import Derived.Handed
import Derived.Lib.LaidTab
import Derived.LaidSub
import Derived.LaidMore
import Derived.Lay
import Derived.Shelf.Strings.Search3
import Derived.Shelf.Strings.Count
import Derived.Shelf.Strings.Prefix
import Derived.Shelf.Strings.SplitShaped
import Derived.Lib.SplitLaws
import Derived.Test.YtgakoainjgjimaaGreatDoorM13
import Derived.Test.YtgakoainjgjimaaGreatDoorM11
import Derived.Test.YtgakoainjgjimaaGreatDoorM10
import Derived.Test.YtgakoainjgjimaaGreatDoorM08
import Derived.Deep.AppendSrc
import Derived.Lib.SlicesCompact
import Derived.Sort.OwnSortedInts
import Derived.Test.YtgakoainjgjimaaGreatDoorM12
import Derived.Sort.QuietThIn
import Derived.Maps.RangeWalk
import Derived.RangeFuncBox
import Derived.Maps.OwnIn
import Derived.Lib.RowBridge
import Derived.Test.YtgakoainjgjimaaGreatDoorM17
import Derived.Test.YtgakoainjgjimaaGreatDoorM16
import Derived.Test.YtgakoainjgjimaaGreatDoorM15
import Derived.Test.YtgakoainjgjimaaGreatDoorM18
import Derived.Deep.DeepMust
import Derived.ProofKit
import Derived.OpenShut
import Derived.ChangeArms
import Derived.SizedLaws
import Derived.Deep.RegionHeld3
import Derived.Laws.ResultCell
import Derived.Laws.Rows
import Derived.Deep.RegionLaw
import Derived.Sort.CutIn
import Derived.Laws.IdiomStrings
import Derived.Shelf.Strings.Shaped

namespace Go.Proofs.YtgakoainjgjimaaGreatDoor
open Go.RowKit
section
variable {κ κ' : Nat → Tg} {t s : Tg} {w w' : World} {H : Nat}
theorem Col.fresh {base E bytes n : Nat} {f : Nat → Value} {v : Value} (ho : Own1 base E bytes w v n f) (hk : ∀ i, base ≤ i → κ i = t) : Col κ t v := by
  intro g hg
  rcases ho.1.2 with ⟨rfl, _⟩ | ⟨g', cap, cur, rfl, hb, hgg, _⟩
  · cases hg
  · have : g' = g := by simpa [Value.ownBlock] using hg
    subst this
    exact hk _ hb
end
attribute [local go_sem] memUpon
theorem Lv.fresh {n : Int} {R : List GR} {C l od nd : List Int} (h : Lv n R C l od nd) {j : Nat} (hj : j < l.length) : ix l j ∉ C ++ l.take j := by
  have h1 := h.nodup
  have e : C ++ l = (C ++ l.take j) ++ l.drop j := by rw [List.append_assoc, List.take_append_drop]
  rw [e] at h1
  have h2 := (List.nodup_append.1 h1).2.2
  intro hm
  refine h2 _ hm (ix l j) ?_ rfl
  have : ix l j = l[j] := by simp [ix, List.getD_eq_getElem?_getD, List.getElem?_eq_getElem hj]
  rw [this, List.mem_iff_getElem]
  exact ⟨0, by simp; omega, by simp⟩
end Go.Proofs.YtgakoainjgjimaaGreatDoor
namespace Go.Proofs.YtgakoainjgjimaaGreatDoor
open Go.RowKit
section
variable {H : Type} {enc : TypeId × Value → H}
theorem returnsInHanded_of_change_and_shape {a : Assume} {C : Checked} {os : Os} {f : FuncId} {fn : Func} {s : ChangeSpec} {conds : List PathCond} {apart fresh handsOn again : Bool} {X : World → Array Value → Prop}
    (hX : ∀ (w w' : World) (args : Array Value), w.heap = w'.heap → X w args → X w' args)
    (own : ownKnob C.prog.godebug = none) (started : os.Started) (noInit : C.prog.inits.idxOf? f = none) (hfn : C.prog.funcs[f]? = some fn)
    (witness : ∃ (w : World) (tape : Tape) (i : Input), w.os = os ∧ (w.forCall tape i).Shaped C.prog ∧ i.vars = [] ∧ Input.okWide C.prog (w.forCall tape i) .any w.heap.size f i ∧
      ((s.pre enc C.prog fn conds apart (w.forCall tape i).memory i.args ∧ X (w.forCall tape i).memory i.args) ∧ sizedMet enc C.prog fn (OpenSpec.ofChange s) apart (w.forCall tape i).memory i.args) ∧ a.holds C.prog (lone (Frame.enter C.prog f i.args .normal) [] (w.forCall tape i)))
    (contract : ∀ (W : World) (base : Nat) (args : Array Value) (ds gs : List (DataW H)) (before : List MemPlace),
      (∀ (j : Nat) t v, fn.params[j]? = some t → args[j]? = some v → Value.okWide C.prog W .any base t v) →
      DataW.Whole enc C.prog fn.params.toList s.vars apart W args.toList ds gs before →
      conds.all (PathCond.test C.prog ⟨fn.params.toList, ds, s.plain.varTypes C.prog, gs⟩) = true →
      (DataW.weightsEach C.prog (fn.params.toList ++ s.plain.varTypes C.prog) (ds ++ gs)).all (· ≤ reachBytes) = true → X W args → W.ShapedOpen C.prog →
      Calls C.prog f args W fun e W' => ∃ v, e = .returned v ∧ s.post enc C.prog fn apart fresh handsOn again W args v W') :
    ReturnsInHanded a C os f .any (fun w args => (s.pre enc C.prog fn conds apart w args ∧ X w args) ∧ sizedMet enc C.prog fn (OpenSpec.ofChange s) apart w args) (s.post enc C.prog fn apart fresh handsOn again) := by
  refine returnsInHanded_of_calls own started noInit witness ?_
  intro w tape i _ hsh _ hok hpre _
  obtain ⟨_, _, _, fn', hfn', _, _, _, _, hval⟩ := hok
  have e : fn' = fn := Option.some.inj (hfn'.symm.trans hfn)
  subst e
  obtain ⟨⟨⟨ds, gs, before, hw, hc⟩, hx⟩, hz⟩ := hpre
  have hw' := DataW.Whole.of_heap (w' := w.forCall tape i) (by rfl) hw
  refine (contract (w.forCall tape i) w.heap.size i.args ds gs before hval hw' hc (hz.weights hw) (hX _ _ _ (by rfl) hx) hsh).mono fun e W' ⟨v, he, hp⟩ => ?_
  subst he
  exact ChangeSpec.post_blind hp
end
end Go.Proofs.YtgakoainjgjimaaGreatDoor
namespace Go.Proofs.YtgakoainjgjimaaGreatDoor
open Go.Shelf
def Tryz.lays144_ren : Go.Shelf.Ren := ⟨fun | 144 => 22 | 143 => 59 | 219 => 103 | 217 => 142 | 225 => 143 | 224 => 144 | 267 => 145 | 266 => 176 | 314 => 177 | n => n, fun | 9 => 9 | 4 => 4 | 3 => 3 | 5 => 5 | 46 => 132 | 146 => 193 | 51 => 165 | n => n, fun | 1 => 0 | n => n⟩
theorem Tryz.lays144 : Go.Proofs.Lays.n144 Tryz.prog Tryz.lays144_ren := {
  mixed := by kernel_rfl
  f143 := Tryz.func59.trans (congrArg some (by kernel_rfl))
  f144 := Tryz.func22.trans (congrArg some (by kernel_rfl))
  f217 := Tryz.func142.trans (congrArg some (by kernel_rfl))
  f219 := Tryz.func103.trans (congrArg some (by kernel_rfl))
  f224 := Tryz.func144.trans (congrArg some (by kernel_rfl))
  f225 := Tryz.func143.trans (congrArg some (by kernel_rfl))
  f266 := Tryz.func176.trans (congrArg some (by kernel_rfl))
  f267 := Tryz.func145.trans (congrArg some (by kernel_rfl))
  f314 := Tryz.func177.trans (congrArg some (by kernel_rfl))
  t3 := Tryz.underlying3
  a3 := Tryz.isAgg3
  z3 := Tryz.sizeOf3
  v3 := Tryz.zeroValue3
  t4 := Tryz.underlying4
  a4 := Tryz.isAgg4
  z4 := Tryz.sizeOf4
  v4 := Tryz.zeroValue4
  t5 := Tryz.underlying5
  a5 := Tryz.isAgg5
  z5 := Tryz.sizeOf5
  v5 := Tryz.zeroValue5
  t9 := Tryz.underlying9
  a9 := Tryz.isAgg9
  z9 := Tryz.sizeOf9
  v9 := Tryz.zeroValue9
  t46 := Tryz.underlying132
  a46 := Tryz.isAgg132
  z46 := Tryz.sizeOf132
  v46 := Tryz.zeroValue132
  t51 := Tryz.underlying165
  a51 := Tryz.isAgg165
  z51 := Tryz.sizeOf165
  v51 := Tryz.zeroValue165
  t146 := Tryz.underlying193
  a146 := Tryz.isAgg193
  z146 := Tryz.sizeOf193
  v146 := Tryz.zeroValue193
  g1 := by kernel_rfl }
open Go.RowKit Go.Lib in
theorem Tryz.strings_Contains_one (s : ByteArray) (c : UInt8) (w : World) :
    Calls Tryz.prog 22 #[.string s, .string ⟨#[c]⟩] w fun e w' => e = .returned (.bool (decide (0 ≤ Lib.indexByte s.data.toList c))) ∧ w' = w := Any.strings_Contains_one Tryz.lays144 s c w
open Go.RowKit Go.Lib in
theorem Tryz.strings_Contains (s sub : ByteArray) (m : Int) (w : World) (hs : s.size < 4294967281) (hm : w.cell? ⟨0, 0, none⟩ = some (.int .i64 m)) :
    Calls Tryz.prog 22 #[.string s, .string sub] w fun e w' => e = .returned (.bool (Lib.contains s.data.toList sub.data.toList)) ∧ w' = w := Any.strings_Contains Tryz.lays144 s sub m w hs hm
def Tryz.lays138_ren : Go.Shelf.Ren := ⟨fun | 138 => 23 | 195 => 60 | 218 => 61 | 143 => 59 | 219 => 103 | 217 => 142 | 225 => 143 | 224 => 144 | 267 => 145 | 266 => 176 | 314 => 177 | n => n, fun | 9 => 9 | 3 => 3 | 4 => 4 | 5 => 5 | 0 => 0 | 46 => 132 | 146 => 193 | 51 => 165 | n => n, fun | 1 => 0 | n => n⟩
theorem Tryz.lays138 : Go.Proofs.Lays.n138 Tryz.prog Tryz.lays138_ren := {
  mixed := by kernel_rfl
  f138 := Tryz.func23.trans (congrArg some (by kernel_rfl))
  f143 := Tryz.func59.trans (congrArg some (by kernel_rfl))
  f195 := Tryz.func60.trans (congrArg some (by kernel_rfl))
  f217 := Tryz.func142.trans (congrArg some (by kernel_rfl))
  f218 := Tryz.func61.trans (congrArg some (by kernel_rfl))
  f219 := Tryz.func103.trans (congrArg some (by kernel_rfl))
  f224 := Tryz.func144.trans (congrArg some (by kernel_rfl))
  f225 := Tryz.func143.trans (congrArg some (by kernel_rfl))
  f266 := Tryz.func176.trans (congrArg some (by kernel_rfl))
  f267 := Tryz.func145.trans (congrArg some (by kernel_rfl))
  f314 := Tryz.func177.trans (congrArg some (by kernel_rfl))
  t0 := Tryz.underlying0
  a0 := Tryz.isAgg0
  z0 := Tryz.sizeOf0
  v0 := Tryz.zeroValue0
  t3 := Tryz.underlying3
  a3 := Tryz.isAgg3
  z3 := Tryz.sizeOf3
  v3 := Tryz.zeroValue3
  t4 := Tryz.underlying4
  a4 := Tryz.isAgg4
  z4 := Tryz.sizeOf4
  v4 := Tryz.zeroValue4
  t5 := Tryz.underlying5
  a5 := Tryz.isAgg5
  z5 := Tryz.sizeOf5
  v5 := Tryz.zeroValue5
  t9 := Tryz.underlying9
  a9 := Tryz.isAgg9
  z9 := Tryz.sizeOf9
  v9 := Tryz.zeroValue9
  t46 := Tryz.underlying132
  a46 := Tryz.isAgg132
  z46 := Tryz.sizeOf132
  v46 := Tryz.zeroValue132
  t51 := Tryz.underlying165
  a51 := Tryz.isAgg165
  z51 := Tryz.sizeOf165
  v51 := Tryz.zeroValue165
  t146 := Tryz.underlying193
  a146 := Tryz.isAgg193
  z146 := Tryz.sizeOf193
  v146 := Tryz.zeroValue193
  g1 := by kernel_rfl }
open Go.RowKit Go.Lib in
theorem Tryz.strings_Count_one (s : ByteArray) (c : UInt8) (w : World) :
    Calls Tryz.prog 23 #[.string s, .string ⟨#[c]⟩] w fun e w' => e = .returned (.int .i64 (Lib.countByte s.data.toList c)) ∧ w' = w := Any.strings_Count_one Tryz.lays138 s c w
def Tryz.lays99_ren : Go.Shelf.Ren := ⟨fun | 99 => 26 | 206 => 64 | n => n, fun | 9 => 9 | 4 => 4 | 3 => 3 | n => n, fun | n => n⟩
theorem Tryz.lays99 : Go.Proofs.Lays.n99 Tryz.prog Tryz.lays99_ren := {
  mixed := by kernel_rfl
  f99 := Tryz.func26.trans (congrArg some (by kernel_rfl))
  f206 := Tryz.func64.trans (congrArg some (by kernel_rfl))
  t3 := Tryz.underlying3
  a3 := Tryz.isAgg3
  z3 := Tryz.sizeOf3
  v3 := Tryz.zeroValue3
  t4 := Tryz.underlying4
  a4 := Tryz.isAgg4
  z4 := Tryz.sizeOf4
  v4 := Tryz.zeroValue4
  t9 := Tryz.underlying9
  a9 := Tryz.isAgg9
  z9 := Tryz.sizeOf9
  v9 := Tryz.zeroValue9 }
open Go.RowKit Go.Lib in
theorem Tryz.strings_HasPrefix (s p : ByteArray) (w : World) :
    Calls Tryz.prog 26 #[.string s, .string p] w fun e w' => e = .returned (.bool (Lib.hasPrefix s.data.toList p.data.toList)) ∧ w' = w := Any.strings_HasPrefix Tryz.lays99 s p w
def Tryz.lays100_ren : Go.Shelf.Ren := ⟨fun | 100 => 24 | 207 => 62 | n => n, fun | 9 => 9 | 4 => 4 | 3 => 3 | n => n, fun | n => n⟩
theorem Tryz.lays100 : Go.Proofs.Lays.n100 Tryz.prog Tryz.lays100_ren := {
  mixed := by kernel_rfl
  f100 := Tryz.func24.trans (congrArg some (by kernel_rfl))
  f207 := Tryz.func62.trans (congrArg some (by kernel_rfl))
  t3 := Tryz.underlying3
  a3 := Tryz.isAgg3
  z3 := Tryz.sizeOf3
  v3 := Tryz.zeroValue3
  t4 := Tryz.underlying4
  a4 := Tryz.isAgg4
  z4 := Tryz.sizeOf4
  v4 := Tryz.zeroValue4
  t9 := Tryz.underlying9
  a9 := Tryz.isAgg9
  z9 := Tryz.sizeOf9
  v9 := Tryz.zeroValue9 }
open Go.RowKit Go.Lib in
theorem Tryz.strings_HasSuffix (s p : ByteArray) (w : World) (hs : s.size ≤ 9223372036854775807) :
    Calls Tryz.prog 24 #[.string s, .string p] w fun e w' => e = .returned (.bool (Lib.hasSuffix s.data.toList p.data.toList)) ∧ w' = w := Any.strings_HasSuffix Tryz.lays100 s p w hs
def Tryz.lays146_ren : Go.Shelf.Ren := ⟨fun | 146 => 25 | 221 => 63 | 268 => 104 | 138 => 23 | 143 => 59 | 195 => 60 | 197 => 146 | 218 => 61 | 219 => 103 | 260 => 178 | 217 => 142 | 225 => 143 | 224 => 144 | 267 => 145 | 266 => 176 | 314 => 177 | n => n, fun | 9 => 9 | 31 => 22 | 3 => 3 | 4 => 4 | 0 => 0 | 105 => 172 | 21 => 21 | 5 => 5 | 46 => 132 | 119 => 211 | 139 => 214 | 138 => 213 | 146 => 193 | 51 => 165 | n => n, fun | 1 => 0 | 3 => 2 | 4 => 3 | n => n⟩
theorem Tryz.lays146 : Go.Proofs.Lays.n146 Tryz.prog Tryz.lays146_ren := {
  mixed := by kernel_rfl
  f138 := Tryz.func23.trans (congrArg some (by kernel_rfl))
  f143 := Tryz.func59.trans (congrArg some (by kernel_rfl))
  f146 := Tryz.func25.trans (congrArg some (by kernel_rfl))
  f195 := Tryz.func60.trans (congrArg some (by kernel_rfl))
  f197 := Tryz.func146.trans (congrArg some (by kernel_rfl))
  f217 := Tryz.func142.trans (congrArg some (by kernel_rfl))
  f218 := Tryz.func61.trans (congrArg some (by kernel_rfl))
  f219 := Tryz.func103.trans (congrArg some (by kernel_rfl))
  f221 := Tryz.func63.trans (congrArg some (by kernel_rfl))
  f224 := Tryz.func144.trans (congrArg some (by kernel_rfl))
  f225 := Tryz.func143.trans (congrArg some (by kernel_rfl))
  f260 := Tryz.func178.trans (congrArg some (by kernel_rfl))
  f266 := Tryz.func176.trans (congrArg some (by kernel_rfl))
  f267 := Tryz.func145.trans (congrArg some (by kernel_rfl))
  f268 := Tryz.func104.trans (congrArg some (by kernel_rfl))
  f314 := Tryz.func177.trans (congrArg some (by kernel_rfl))
  t0 := Tryz.underlying0
  a0 := Tryz.isAgg0
  z0 := Tryz.sizeOf0
  v0 := Tryz.zeroValue0
  t3 := Tryz.underlying3
  a3 := Tryz.isAgg3
  z3 := Tryz.sizeOf3
  v3 := Tryz.zeroValue3
  t4 := Tryz.underlying4
  a4 := Tryz.isAgg4
  z4 := Tryz.sizeOf4
  v4 := Tryz.zeroValue4
  t5 := Tryz.underlying5
  a5 := Tryz.isAgg5
  z5 := Tryz.sizeOf5
  v5 := Tryz.zeroValue5
  t9 := Tryz.underlying9
  a9 := Tryz.isAgg9
  z9 := Tryz.sizeOf9
  v9 := Tryz.zeroValue9
  t21 := Tryz.underlying21
  a21 := Tryz.isAgg21
  z21 := Tryz.sizeOf21
  v21 := Tryz.zeroValue21
  t31 := Tryz.underlying22
  a31 := Tryz.isAgg22
  z31 := Tryz.sizeOf22
  v31 := Tryz.zeroValue22
  t46 := Tryz.underlying132
  a46 := Tryz.isAgg132
  z46 := Tryz.sizeOf132
  v46 := Tryz.zeroValue132
  t51 := Tryz.underlying165
  a51 := Tryz.isAgg165
  z51 := Tryz.sizeOf165
  v51 := Tryz.zeroValue165
  t105 := Tryz.underlying172
  a105 := Tryz.isAgg172
  z105 := Tryz.sizeOf172
  v105 := Tryz.zeroValue172
  t119 := Tryz.underlying211
  a119 := Tryz.isAgg211
  z119 := Tryz.sizeOf211
  t138 := Tryz.underlying213
  a138 := Tryz.isAgg213
  z138 := Tryz.sizeOf213
  v138 := Tryz.zeroValue213
  t139 := Tryz.underlying214
  a139 := Tryz.isAgg214
  z139 := Tryz.sizeOf214
  v139 := Tryz.zeroValue214
  t146 := Tryz.underlying193
  a146 := Tryz.isAgg193
  z146 := Tryz.sizeOf193
  v146 := Tryz.zeroValue193
  g1 := by kernel_rfl
  g3 := by kernel_rfl
  g4 := by kernel_rfl }
open Go.RowKit Go.Lib in
theorem Tryz.strings_Split (s sep : ByteArray) (m : Int) (w : World) (hs : s.size < 4294967281) (hm : w.cell? ⟨0, 0, none⟩ = some (.int .i64 m)) (h1 : 1 ≤ sep.size) :
    Calls Tryz.prog 25 #[.string s, .string sep] w fun e w' =>
      e = .returned (.slice (some ⟨w.heap.size, 0, none⟩) (Lib.countB s sep + 1) (Lib.countB s sep + 1)) ∧ w' = w.alloc (.cells ((Lib.splitB sep 0 (Lib.countB s sep) s).map Value.string).toArray 9) := Any.strings_Split Tryz.lays146 (by kernel_rfl) s sep m w hs hm h1
end Go.Proofs.YtgakoainjgjimaaGreatDoor
namespace Go.Proofs.YtgakoainjgjimaaGreatDoor
open Go.RowKit
theorem dec_ten (n : Nat) : (10 : UInt8) ∉ Lib.decDigits n := by
  induction n using Nat.strongRecOn with
  | ind n ih =>
    have hd : ∀ k, k < 10 → (10 : UInt8) ≠ UInt8.ofNat (48 + k) := by decide
    unfold Lib.decDigits
    split
    · next h => rw [List.mem_singleton]; exact hd n h
    · next h =>
      rw [List.mem_append, List.mem_singleton]
      exact fun e => e.elim (ih (n / 10) (by omega)) (hd (n % 10) (by omega))
theorem itS_ten (n : Int) : (10 : UInt8) ∉ (itS n).data.toList := by
  unfold itS Lib.itoa
  dsimp only
  split
  · rw [List.mem_cons]
    exact fun e => e.elim (by decide) (dec_ten _)
  · exact dec_ten _
def NoTen (l : List ByteArray) : Prop := ∀ i, (10 : UInt8) ∉ (ixS l i).data.toList
theorem name_ten {l : List ByteArray} (h : NoTen l) (a : Int) : (10 : UInt8) ∉ (nameX l a).data.toList := by
  unfold nameX
  split
  · exact h _
  · rw [ByteArray.data_append, Array.toList_append, List.mem_append]
    exact fun e => e.elim (by decide) (itS_ten a)
def lineB (l : List ByteArray) (y : WY) : List UInt8 := (nameX l y.atom).data.toList ++ ([32, 98, 121, 32] ++ ((itS y.rule).data.toList ++ ([32, 108, 101, 118, 101, 108, 32] ++ (itS y.level).data.toList)))
theorem lineX_body (l : List ByteArray) (y : WY) : lineX l y = lineB l y ++ [10] := by simp [lineX, lineB]
theorem lineB_ten {l : List ByteArray} (h : NoTen l) (y : WY) : (10 : UInt8) ∉ lineB l y := by
  unfold lineB
  simp only [List.mem_append, not_or]
  exact ⟨name_ten h _, by decide, itS_ten _, by decide, itS_ten _⟩
theorem count_zero10 {l : List UInt8} (h : (10 : UInt8) ∉ l) : l.count 10 = 0 := List.count_eq_zero.2 h
theorem whysT_count {l : List ByteArray} (h : NoTen l) : ∀ ys, (whysT l ys).count 10 = ys.length
  | [] => rfl
  | y :: ys => by
    have ih := whysT_count h ys
    unfold whysT at ih ⊢
    rw [List.flatMap_cons, List.count_append, ih, lineX_body, List.count_append, count_zero10 (lineB_ten h y), List.length_cons]
    have : ([10] : List UInt8).count 10 = 1 := by decide
    omega
theorem atomsT_ten {l : List ByteArray} (h : NoTen l) (r : List Int) : (10 : UInt8) ∉ atomsT l r := by
  unfold atomsT
  rw [List.mem_flatMap]
  rintro ⟨a, -, ha⟩
  rw [List.mem_append] at ha
  exact ha.elim (by decide) (name_ten h a)
theorem restT_count {l : List ByteArray} (h : NoTen l) (r : List Int) : (restT l r).count 10 = min r.length 1 := by
  unfold restT
  split
  · next e => rw [e]; rfl
  · next e =>
    rw [List.count_append, List.count_append, count_zero10 (atomsT_ten h r)]
    have h1 : ([114, 101, 115, 116] : List UInt8).count 10 = 0 := by decide
    have h2 : ([10] : List UInt8).count 10 = 1 := by decide
    omega
theorem textX_count {l : List ByteArray} (h : NoTen l) (x : XP) : (textX l x).count 10 = x.whys.length + min x.rest.length 1 := by
  unfold textX
  rw [List.count_append, whysT_count h, restT_count h]
theorem textX_none {l : List ByteArray} {x : XP} (h : x.whys.length + min x.rest.length 1 = 0) : textX l x = [] := by
  have h1 : x.whys = [] := List.length_eq_zero_iff.1 (by omega)
  have h2 : x.rest.length = 0 := by omega
  unfold textX restT whysT
  rw [h1, if_pos h2]
  rfl
theorem textX_suffix {l : List ByteArray} {x : XP} (h : 0 < x.whys.length + min x.rest.length 1) : Lib.hasSuffix (textX l x) [10] = true := by
  unfold Lib.hasSuffix
  rw [List.isSuffixOf_iff_suffix]
  unfold textX
  by_cases hr : x.rest.length = 0
  · have hw : x.whys ≠ [] := fun e => by rw [e] at h; simp at h; omega
    obtain ⟨ys, y, e⟩ : ∃ ys y, x.whys = ys ++ [y] := ⟨_, _, (List.dropLast_concat_getLast hw).symm⟩
    unfold restT
    rw [if_pos hr, List.append_nil, e]
    unfold whysT
    rw [List.flatMap_append, List.flatMap_cons, List.flatMap_nil, List.append_nil, lineX_body, ← List.append_assoc]
    exact List.suffix_append _ _
  · unfold restT
    rw [if_neg hr, ← List.append_assoc, ← List.append_assoc]
    exact List.suffix_append _ _
theorem index_ten {b t : List UInt8} (h : (10 : UInt8) ∉ b) : Lib.index (b ++ 10 :: t) [10] = b.length := by
  refine Lib.index_first (by simp) ?_ fun j hj => ?_
  · unfold Lib.occAt
    rw [List.drop_left]
    simp
  · cases ho : Lib.occAt (b ++ 10 :: t) [10] j with
    | false => rfl
    | true =>
      have := Lib.occAt_head rfl ho
      rw [List.getElem?_append_left hj] at this
      exact absurd (List.mem_of_getElem? this) h
theorem split_whys {l : List ByteArray} (h : NoTen l) (t : List UInt8) : ∀ (ys : List WY) (k i : Nat), ys.length ≤ k → i < ys.length → (Lib.splitK [10] 0 k (whysT l ys ++ t))[i]? = (ys[i]?).map (lineB l)
  | [], _, i, _, hi => absurd hi (Nat.not_lt_zero _)
  | y :: ys, 0, _, hk, _ => absurd hk (by simp)
  | y :: ys, k + 1, i, hk, hi => by
    have e : whysT l (y :: ys) ++ t = lineB l y ++ 10 :: (whysT l ys ++ t) := by
      unfold whysT
      rw [List.flatMap_cons, lineX_body]
      simp
    have hx := index_ten (t := whysT l ys ++ t) (lineB_ten h y)
    rw [e, Lib.splitK, hx, if_neg (by simp only [beq_iff_eq]; omega), Int.toNat_natCast]
    cases i with
    | zero => simp
    | succ i =>
      rw [List.getElem?_cons_succ, List.getElem?_cons_succ]
      have ed : (lineB l y ++ 10 :: (whysT l ys ++ t)).drop ((lineB l y).length + [(10 : UInt8)].length) = whysT l ys ++ t := by
        rw [List.drop_append]
        simp
      rw [ed]
      exact split_whys h t ys k i (by simpa using hk) (by simpa using hi)
theorem text_piece {l : List ByteArray} (h : NoTen l) {x : XP} {i : Nat} (hi : i < x.whys.length) {T : ByteArray} (hT : ⟨(textX l x).toArray⟩ = T) :
    ∃ P : ByteArray, (Lib.splitB ⟨#[10]⟩ 0 (Lib.countB T ⟨#[10]⟩) T)[i]? = some P ∧ P.data.toList = lineB l (ixY x.whys i) := by
  have hc : Lib.countB T ⟨#[10]⟩ = x.whys.length + min x.rest.length 1 := by
    show Lib.count T.data.toList [10] = _
    rw [Lib.count_one, ← hT]
    exact textX_count h x
  have hs := Lib.splitB_data ⟨#[10]⟩ 0 (Lib.countB T ⟨#[10]⟩) T
  have hp := split_whys h (restT l x.rest) x.whys (Lib.countB T ⟨#[10]⟩) i (by omega) hi
  have ht : T.data.toList = whysT l x.whys ++ restT l x.rest := by rw [← hT]; rfl
  rw [ht] at hs
  have hm := congrArg (fun L : List (List UInt8) => L[i]?) hs
  dsimp only at hm
  rw [List.getElem?_map] at hm
  cases hP : (Lib.splitB ⟨#[10]⟩ 0 (Lib.countB T ⟨#[10]⟩) T)[i]? with
  | none =>
    rw [hP] at hm
    have h3 := hm.trans hp
    rw [List.getElem?_eq_getElem hi] at h3
    cases h3
  | some P =>
    rw [hP] at hm
    have h3 := hm.trans hp
    refine ⟨P, rfl, ?_⟩
    rw [List.getElem?_eq_getElem hi] at h3
    simpa [ixY, List.getD, hi] using h3
theorem contains_mid (a s b : List UInt8) : Lib.contains (a ++ (s ++ b)) s = true := by
  unfold Lib.contains
  rcases Lib.index_spec (a ++ (s ++ b)) s with ⟨-, h⟩ | ⟨i, h, -⟩
  · have := h a.length (by simp)
    unfold Lib.occAt at this
    rw [List.drop_left] at this
    exact absurd (List.isPrefixOf_iff_prefix.2 (List.prefix_append s b)) (by rw [this]; exact Bool.false_ne_true)
  · rw [h]; exact decide_eq_true (Int.natCast_nonneg i)
theorem line_by (l : List ByteArray) (y : WY) : Lib.contains (lineB l y) [32, 98, 121, 32] = true := contains_mid _ _ _
theorem line_level (l : List ByteArray) (y : WY) : Lib.contains (lineB l y) [32, 108, 101, 118, 101, 108, 32] = true := by
  have := contains_mid ((nameX l y.atom).data.toList ++ ([32, 98, 121, 32] ++ (itS y.rule).data.toList)) [32, 108, 101, 118, 101, 108, 32] (itS y.level).data.toList
  simpa [lineB] using this
theorem line_name (l : List ByteArray) (y : WY) : Lib.hasPrefix (lineB l y) ((nameX l y.atom).data.toList ++ [32, 98, 121, 32]) = true := by
  unfold Lib.hasPrefix
  rw [List.isPrefixOf_iff_prefix]
  refine ⟨(itS y.rule).data.toList ++ ([32, 108, 101, 118, 101, 108, 32] ++ (itS y.level).data.toList), ?_⟩
  simp [lineB]
theorem text_one (l : List ByteArray) (y : WY) : textX l ⟨[y], []⟩ = lineB l y ++ [10] := by
  unfold textX whysT restT
  simp [lineX_body]
def MaxL (M : Int) (w : World) : Prop := w.cell? ⟨0, 0, none⟩ = some (.int .i64 M) ∧ 0 < w.heap.size
theorem MaxL.below {M : Int} {w w' : World} (h : MaxL M w) (hb : Below w.heap.size w w') : MaxL M w' := ⟨(bcell hb _ _ h.2).trans h.1, Nat.lt_of_lt_of_le h.2 hb.size⟩
theorem ib_mem {c : UInt8} : ∀ {l : List UInt8}, Lib.indexByte l c = -1 → c ∉ l
  | [], _, h => by cases h
  | b :: l, h, hm => by
    unfold Lib.indexByte at h
    split at h
    · exact absurd h (by decide)
    · next e =>
      have hbc : ¬ b = c := fun e' => e (by simp [e'])
      split at h
      · next e2 => exact ib_mem (by simpa using e2) ((List.mem_cons.1 hm).resolve_left fun e' => hbc e'.symm)
      · have := Lib.indexByte_ge l c; omega
theorem cont_call {s : ByteArray} {b : Bool} {w : World} (hb : decide (0 ≤ Lib.indexByte s.data.toList 10) = b) :
    Calls Tryz.prog 22 #[.string s, .string ⟨#[10]⟩] w fun e w' => e = .returned (.bool b) ∧ w' = w := by
  have := Tryz.strings_Contains_one s 10 w
  rwa [hb] at this
theorem contM_call {s sub : ByteArray} {b : Bool} {M : Int} {w : World} (hb : Lib.contains s.data.toList sub.data.toList = b) (hs : s.size < 4294967281) (hM : MaxL M w) :
    Calls Tryz.prog 22 #[.string s, .string sub] w fun e w' => e = .returned (.bool b) ∧ w' = w := by
  have := Tryz.strings_Contains s sub M w hs hM.1
  rwa [hb] at this
theorem count_call {s : ByteArray} {n : Int} {w : World} (hn : ((s.data.toList.count 10 : Nat) : Int) = n) :
    Calls Tryz.prog 23 #[.string s, .string ⟨#[10]⟩] w fun e w' => e = .returned (.int .i64 n) ∧ w' = w := by
  have := Tryz.strings_Count_one s 10 w
  unfold Lib.countByte at this
  rwa [hn] at this
theorem suff_call {s : ByteArray} {w : World} (hb : Lib.hasSuffix s.data.toList [10] = true) (hs : s.size ≤ 9223372036854775807) :
    Calls Tryz.prog 24 #[.string s, .string ⟨#[10]⟩] w fun e w' => e = .returned (.bool true) ∧ w' = w := by
  have := Tryz.strings_HasSuffix s ⟨#[10]⟩ w hs
  rwa [show Lib.hasSuffix s.data.toList (⟨#[10]⟩ : ByteArray).data.toList = true from hb] at this
theorem pref_call {s p : ByteArray} {w : World} (hb : Lib.hasPrefix s.data.toList p.data.toList = true) :
    Calls Tryz.prog 26 #[.string s, .string p] w fun e w' => e = .returned (.bool true) ∧ w' = w := by
  have := Tryz.strings_HasPrefix s p w
  rwa [hb] at this
theorem split_call {s : ByteArray} {M : Int} {w : World} (hs : s.size < 4294967281) (hM : MaxL M w) :
    Calls Tryz.prog 25 #[.string s, .string ⟨#[10]⟩] w fun e w' => ∃ n : Nat, e = .returned (.slice (some ⟨w.heap.size, 0, none⟩) n n) ∧ Below w.heap.size w w' ∧ w.heap.size < w'.heap.size ∧
      ∀ i P, (Lib.splitB ⟨#[10]⟩ 0 (Lib.countB s ⟨#[10]⟩) s)[i]? = some P → i < n ∧ w'.cell? ⟨w.heap.size, i, none⟩ = some (.string P) := by
  refine (Tryz.strings_Split s ⟨#[10]⟩ M w hs hM.1 (by decide)).mono ?_
  rintro e w' ⟨rfl, rfl⟩
  refine ⟨_, rfl, bal (Below.refl _ _) _, by simp, fun i P h => ⟨?_, ?_⟩⟩
  · have h1 := Lib.splitB_length_le ⟨#[10]⟩ 0 (Lib.countB s ⟨#[10]⟩) s
    obtain ⟨h2, -⟩ := List.getElem?_eq_some_iff.1 h
    omega
  · have := Blk.new w ((Lib.splitB ⟨#[10]⟩ 0 (Lib.countB s ⟨#[10]⟩) s).map Value.string) 9
    have := this.cell i
    rw [List.getElem?_map, h] at this
    exact this
theorem ew_name_len {l : List ByteArray} (h : ∀ i, (ixS l i).data.toList.length ≤ 40) {w : World} {a : Int} (ha : OkN w a) : (nameX l a).data.toList.length ≤ 101 := by
  unfold nameX
  split
  · have := h (a - 1).toNat; omega
  · have := ha.2
    simp only [ByteArray.data_append, Array.toList_append, List.length_append]
    simp only [List.length_cons, List.length_nil]
    omega
theorem ew_whys_len {l : List ByteArray} (h : ∀ i, (ixS l i).data.toList.length ≤ 40) {w : World} : ∀ {ys : List WY}, (∀ y ∈ ys, OkN w y.atom ∧ OkN w y.rule ∧ OkN w y.level) → (whysT l ys).length ≤ ys.length * 400
  | [], _ => by simp [whysT]
  | y :: ys, hy => by
    have ih := ew_whys_len h (ys := ys) fun z hz => hy z (List.mem_cons_of_mem _ hz)
    obtain ⟨h1, h2, h3⟩ := hy y (List.mem_cons_self ..)
    have n1 := ew_name_len h h1
    have n2 := h2.2
    have n3 := h3.2
    have hl : (lineX l y).length ≤ 400 := by
      unfold lineX
      simp only [List.length_append, List.length_cons, List.length_nil]
      omega
    unfold whysT at ih ⊢
    rw [List.flatMap_cons, List.length_append, List.length_cons]
    omega
theorem line_len {l : List ByteArray} (h : ∀ i, (ixS l i).data.toList.length ≤ 40) {w : World} {y : WY} (hy : OkN w y.atom ∧ OkN w y.rule ∧ OkN w y.level) : (lineB l y).length ≤ 400 := by
  obtain ⟨h1, h2, h3⟩ := hy
  have n1 := ew_name_len h h1
  have n2 := h2.2
  have n3 := h3.2
  unfold lineB
  simp only [List.length_append, List.length_cons, List.length_nil]
  omega
theorem ew_atoms_len {l : List ByteArray} (h : ∀ i, (ixS l i).data.toList.length ≤ 40) {w : World} : ∀ {r : List Int}, (∀ a ∈ r, OkN w a) → (atomsT l r).length ≤ r.length * 200
  | [], _ => by simp [atomsT]
  | a :: r, hr => by
    have ih := ew_atoms_len h (r := r) fun z hz => hr z (List.mem_cons_of_mem _ hz)
    have n1 := ew_name_len h (hr a (List.mem_cons_self ..))
    unfold atomsT at ih ⊢
    rw [List.flatMap_cons, List.length_append]
    simp only [List.length_append, List.length_cons, List.length_nil]
    omega
theorem text_small {w : World} {vx : Value} {l : List ByteArray} {x : XP} (h : ∀ i, (ixS l i).data.toList.length ≤ 40) (hP : Pow10 w) (hx : ExplIs w vx x) (h1 : x.whys.length ≤ 20) (h2 : x.rest.length ≤ 20) : (textX l x).length ≤ 100000 := by
  obtain ⟨k1, k2⟩ := okn_whys hP hx
  have n1 := ew_whys_len h k1
  have n2 := ew_atoms_len h k2
  unfold textX restT
  rw [List.length_append]
  split
  · simp only [List.length_nil]; omega
  · simp only [List.length_append, List.length_cons, List.length_nil]; omega
structure EwS (M : Int) (w : World) (p : GP) (vn vs vr vmn xw xr : Value) (x : XP) (W : World) : Prop where
  pbx : Blk W w.heap.size [.int .i64 p.n, vn, vs, vr, vmn] 27
  xbx : Blk W (w.heap.size + 1) [xw, xr] 30
  prog : ProgIs W (.agg #[.int .i64 p.n, vn, vs, vr, vmn]) p
  xis : ExplIs W (.agg #[xw, xr]) x
  pow : Pow10 W
  maxl : MaxL M W
  below : Below w.heap.size w W
theorem EwS.on {M : Int} {w : World} {p : GP} {vn vs vr vmn xw xr : Value} {x : XP} {W W' : World} (h : EwS M w p vn vs vr vmn xw xr x W) (hb : Below W.heap.size W W') : EwS M w p vn vs vr vmn xw xr x W' :=
  ⟨h.pbx.below hb, h.xbx.below hb, h.prog.below hb, h.xis.below hb, h.pow.below hb, h.maxl.below hb, bon h.below hb⟩
def EwF (l : List ByteArray) (k : Nat) : Prop := ∀ j, j < k → (ixS l j).size ≤ 40 ∧ (10 : UInt8) ∉ (ixS l j).data.toList
def EwR1 (l : List ByteArray) (W0 : World) (i : Value) (W : World) : Prop := ∃ k : Nat, k ≤ l.length ∧ i = .int .i64 k ∧ EwF l k ∧ Below W0.heap.size W0 W
def EwR2 (x : XP) (W0 : World) (i : Value) (W : World) : Prop := ∃ k : Nat, k ≤ x.whys.length ∧ i = .int .i64 k ∧ Below W0.heap.size W0 W
theorem EwF.next {l : List ByteArray} {k : Nat} (h : EwF l k) (h1 : (ixS l k).size ≤ 40) (h2 : (10 : UInt8) ∉ (ixS l k).data.toList) : EwF l (k + 1) := fun j hj => by
  rcases Nat.lt_succ_iff_lt_or_eq.1 hj with h3 | rfl
  · exact h j h3
  · exact ⟨h1, h2⟩
theorem EwF.all {l : List ByteArray} (h : EwF l l.length) : NoTen l ∧ ∀ i, (ixS l i).data.toList.length ≤ 40 := by
  have key : ∀ i, (ixS l i).size ≤ 40 ∧ (10 : UInt8) ∉ (ixS l i).data.toList := fun i => by
    by_cases hi : i < l.length
    · exact h i hi
    · have : ixS l i = ⟨#[]⟩ := by simp [ixS, List.getD, Nat.le_of_not_lt hi]
      rw [this]
      decide
  exact ⟨fun i => (key i).2, fun i => by rw [Array.length_toList]; exact (key i).1⟩
set_option maxHeartbeats 8000000 in
set_option maxRecDepth 100000 in
theorem ew_walk (v vx : Value) (p : GP) (x : XP) (M : Int) (w : World) (h : ProgIs w v p) (hx : ExplIs w vx x) (hP : Pow10 w) (hM : MaxL M w) :
    Calls Tryz.prog 4 #[v, vx] w fun e w' => e = .returned (.bool true) ∧ Below w.heap.size w w' := by
  have h0 := h
  have hx0 := hx
  obtain ⟨vn, vs, vr, vmn, rfl, hPS⟩ := h
  obtain ⟨an, cn, rfl, -, hl1, hl2, hsz, hcN⟩ := hPS.names.form
  obtain ⟨xw, xr, rfl, hwh, hrs⟩ := hx
  obtain ⟨aw, cw, rfl, -, -, -, hcW⟩ := hwh.form
  obtain ⟨ar, cr, rfl, -⟩ := id hrs.form
  have hal := bal (bal (Below.refl w.heap.size w) (.cells #[.int .i64 p.n, .slice an p.names.length cn, vs, vr, vmn] 27)) (.cells #[.slice aw x.whys.length cw, .slice ar x.rest.length cr] 30)
  have HS0 : Hid (EwS M w p (.slice an p.names.length cn) vs vr vmn (.slice aw x.whys.length cw) (.slice ar x.rest.length cr) x ((w.alloc (.cells #[.int .i64 p.n, .slice an p.names.length cn, vs, vr, vmn] 27)).alloc (.cells #[.slice aw x.whys.length cw, .slice ar x.rest.length cr] 30))) :=
    Lib.hid ⟨(Blk.new w [.int .i64 p.n, .slice an p.names.length cn, vs, vr, vmn] _).alloc _, Blk.new2 w _ [.slice aw x.whys.length cw, .slice ar x.rest.length cr] _, h0.below hal, hx0.below hal, hP.below hal, hM.below hal, hal⟩
  have kp0 := HS0.out.pbx.cell
  have kx0 := HS0.out.xbx.cell
  have HCN := Lib.hid hcN
  have HCW := Lib.hid hcW
  clear h0 hx0 hPS hwh hrs hal hcN hcW hsz hP hM
  go_enter Tryz.func4, Tryz.ntmps4
  go_upto_region 1 with fail
  generalize (w.alloc (.cells #[.int .i64 p.n, .slice an p.names.length cn, vs, vr, vmn] 27)).alloc (.cells #[.slice aw x.whys.length cw, .slice ar x.rest.length cr] 30) = W0 at *
  by_cases g1 : p.names.length ≤ 20
  case neg =>
    go_wp2_with (go_at_call 7; (with_reducible refine (awake41_any _).mono ?_); rintro e w9 ⟨rfl, hb9⟩; have HB9 := Lib.hid ((HS0.out.on hb9).below); clear hb9)
    go_ret
    exact ⟨rfl, HB9.out⟩
  by_cases g2 : x.whys.length ≤ 20
  case neg =>
    go_wp2_with (go_at_call 7; (with_reducible refine (awake41_any _).mono ?_); rintro e w9 ⟨rfl, hb9⟩; have HB9 := Lib.hid ((HS0.out.on hb9).below); clear hb9)
    go_ret
    exact ⟨rfl, HB9.out⟩
  by_cases g3 : x.rest.length ≤ 20
  case neg =>
    go_wp2_with (go_at_call 7; (with_reducible refine (awake41_any _).mono ?_); rintro e w9 ⟨rfl, hb9⟩; have HB9 := Lib.hid ((HS0.out.on hb9).below); clear hb9)
    go_ret
    exact ⟨rfl, HB9.out⟩
  have HW2 : Hid (x.whys.length ≤ 100) := Lib.hid (by omega)
  have HR2 : Hid (x.rest.length ≤ 100) := Lib.hid (by omega)
  go_wp2_with fail
  go_loopw [33] (fun i wx => EwR1 p.names W0 i wx) (fun i _ => p.names.length - (intOf i).toNat)
  case atStart => exact ⟨0, Nat.zero_le _, rfl, fun j hj => absurd hj (Nat.not_lt_zero _), Below.refl _ _⟩
  case round =>
    obtain ⟨k, hk, rfl, hall, hb⟩ := hrel
    have HA := Lib.hid hall
    have HB := Lib.hid hb
    by_cases hlt : k < p.names.length
    · obtain ⟨b, off, rfl, hbl, hc⟩ := HCN.out (by omega)
      have hkk := (bcell (bon HS0.out.below hb) _ _ hbl).trans (hc k hlt)
      clear hall hb hc kp0 kx0
      generalize hs : ixS p.names k = s at *
      by_cases e1 : s.size ≤ 40
      · obtain ⟨q, hq⟩ : ∃ q, decide (0 ≤ Lib.indexByte s.data.toList 10) = q := ⟨_, rfl⟩
        have HQ := Lib.hid hq
        clear hq
        cases q with
        | true =>
          go_wp2_with (first | ((go_at_call 7; (with_reducible refine (awake41_any _).mono ?_); rintro e w9 ⟨rfl, hb9⟩; have HB9 := Lib.hid (bon (HS0.out.on HB.out).below hb9); clear hb9)) | (go_at_call 22; (with_reducible refine (cont_call HQ.out).mono ?_); rintro e w1 ⟨rfl, rfl⟩))
          go_ret
          exact ⟨rfl, HB9.out⟩
        | false =>
          have HN := Lib.hid (HA.out.next (by rw [hs]; exact e1) (by rw [hs]; exact ib_mem (by have := Lib.indexByte_ge s.data.toList 10; have := of_decide_eq_false HQ.out; omega)))
          clear hs
          go_wp2_with (go_at_call 22; (with_reducible refine (cont_call HQ.out).mono ?_); rintro e w1 ⟨rfl, rfl⟩)
          first
            | (go_roundw
               case rel => (exact ⟨k + 1, by omega, by go_num, HN.out, HB.out⟩)
               case measure => (simp [intOf]; omega))
            | (refine ⟨?_, ?_⟩
               · (exact ⟨k + 1, by omega, by go_num, HN.out, HB.out⟩)
               · (simp [intOf]; omega))
      · clear hs
        go_wp2_with ((go_at_call 7; (with_reducible refine (awake41_any _).mono ?_); rintro e w9 ⟨rfl, hb9⟩; have HB9 := Lib.hid (bon (HS0.out.on HB.out).below hb9); clear hb9))
        go_ret
        exact ⟨rfl, HB9.out⟩
    · obtain rfl : k = p.names.length := by omega
      have HNT := Lib.hid hall.all
      clear hall HA kp0 kx0
      have HS1 := Lib.hid (HS0.out.on hb)
      have kp1 := HS1.out.pbx.cell
      have kx1 := HS1.out.xbx.cell
      clear hb
      obtain ⟨T, hT⟩ : ∃ T : ByteArray, ⟨(textX p.names x).toArray⟩ = T := ⟨_, rfl⟩
      have HT := Lib.hid hT
      have hTl : T.data.toList = textX p.names x := by rw [← hT]
      have HTL := Lib.hid hTl
      clear hT
      go_upto_region 11 with (go_at_call 13; (with_reducible refine (textt_any HT.out HNT.out.2 HS1.out.pow HS1.out.prog HS1.out.xis HW2.out HR2.out).mono ?_); rintro e w2 ⟨rfl, hb2⟩; have HS2 := Lib.hid (HS1.out.on hb2); have kp2 := HS2.out.pbx.cell; have kx2 := HS2.out.xbx.cell; clear hb2)
      have hcnt : T.data.toList.count 10 = x.whys.length + min x.rest.length 1 := by rw [hTl]; exact textX_count HNT.out.1 x
      have HCNT := Lib.hid hcnt
      have hTs : T.size ≤ 100000 := by
        show T.data.size ≤ 100000
        rw [← Array.length_toList, hTl]
        exact text_small HNT.out.2 HS1.out.pow HS1.out.xis g2 g3
      have HTS1 : Hid (T.size < 4294967281) := Lib.hid (by omega)
      have HTS2 : Hid (T.size ≤ 9223372036854775807) := Lib.hid (by omega)
      clear hTl hcnt hTs
      generalize hK : ((x.whys.length : Int) + min (x.rest.length : Int) 1) = K at *
      have HC0 : Hid (((T.data.toList.count 10 : Nat) : Int) = K) := Lib.hid (by rw [HCNT.out, ← hK]; omega)
      by_cases hz : K = 0
      · have hz0 : x.whys.length + min x.rest.length 1 = 0 := by omega
        have hT0 : T.toList = [] := by rw [Lib.toList_data, HTL.out]; exact textX_none hz0
        have HL0 : Hid (x.whys.length = 0) := Lib.hid (by omega)
        clear hz0 hK
        subst hz
        go_upto_region 13 with (go_at_call 23; (with_reducible refine (count_call HC0.out).mono ?_); rintro e w3 ⟨rfl, rfl⟩)
        go_wp2_with fail
        go_loopw [81] (fun i wx => EwR2 x w3 i wx) (fun i _ => x.whys.length - (intOf i).toNat)
        case atStart => exact ⟨0, Nat.zero_le _, rfl, Below.refl _ _⟩
        case round =>
          obtain ⟨k, hk, rfl, hb⟩ := hrel
          have h0 := HL0.out
          obtain rfl : k = 0 := by omega
          have hnl : ¬ (0 : Nat) < x.whys.length := by omega
          have HSB := Lib.hid (HS2.out.on hb)
          clear hb h0
          go_wp2_with ((go_at_call 7; (with_reducible refine (awake41_any _).mono ?_); rintro e w9 ⟨rfl, hb9⟩; have HB9 := Lib.hid (HSB.out.on hb9).below; clear hb9))
          go_ret
          exact ⟨rfl, HB9.out⟩
      · have hz0 : 0 < x.whys.length + min x.rest.length 1 := by omega
        have hK0 : 0 < K := by omega
        have HSF : Hid (Lib.hasSuffix T.data.toList [10] = true) := Lib.hid (by rw [HTL.out]; exact textX_suffix hz0)
        have hk1 : (K != K) = false := by simp
        have hk2 : (K == 0) = false := by simp [hz]
        clear hz0 hK hz
        go_upto_region 13 with (first
          | (go_at_call 23; (with_reducible refine (count_call HC0.out).mono ?_); rintro e w3 ⟨rfl, rfl⟩)
          | (go_at_call 24; (with_reducible refine (suff_call HSF.out HTS2.out).mono ?_); rintro e w3 ⟨rfl, rfl⟩))
        clear hk1 hk2 hK0
        go_wp2_with fail
        go_loopw [81] (fun i wx => EwR2 x w3 i wx) (fun i _ => x.whys.length - (intOf i).toNat)
        case atStart => exact ⟨0, Nat.zero_le _, rfl, Below.refl _ _⟩
        case round =>
          obtain ⟨k, hk, rfl, hb⟩ := hrel
          have HS3 := Lib.hid (HS2.out.on hb)
          clear kp1 kp2 kx1 kx2
          by_cases hlt : k < x.whys.length
          · obtain ⟨b, off, rfl, hbl, hc⟩ := HCW.out (by omega)
            obtain ⟨k0, k1, k2⟩ := hc k hlt
            obtain ⟨P, hP1, hP2⟩ := text_piece HNT.out.1 hlt HT.out
            have hok := (okn_whys HS3.out.pow HS3.out.xis).1 _ (ixY_mem hlt)
            obtain ⟨y, hy⟩ : ∃ y, ixY x.whys k = y := ⟨_, rfl⟩
            rw [hy] at k0 k1 k2 hP2 hok
            have HYI : Hid (YI y) := Lib.hid (by obtain ⟨_, _, e, h1, -⟩ := HS3.out.xis; rw [← hy]; exact h1.2 _ (ixY_mem hlt))
            have kk := bcell HS3.out.below b
            have q0 := (kk _ hbl).trans k0
            have q1 := (kk _ hbl).trans k1
            have q2 := (kk _ hbl).trans k2
            have HP := Lib.hid hP1
            have HPL := Lib.hid hP2
            have HPS : Hid (P.size < 4294967281) := Lib.hid (by
              show P.data.size < _
              rw [← Array.length_toList, hP2]
              have := line_len HNT.out.2 hok
              omega)
            have HT1 : Hid ((⟨(textX p.names ⟨[y], []⟩).toArray⟩ : ByteArray) = P ++ ⟨#[10]⟩) := Lib.hid (by
              rw [text_one, ← hP2]
              apply ByteArray.ext
              exact Array.toList_inj.1 (by rw [ByteArray.data_append, Array.toList_append]))
            have HC1 : Hid (Lib.contains P.data.toList (⟨#[32, 98, 121, 32]⟩ : ByteArray).data.toList = true) := Lib.hid (by rw [hP2]; exact line_by _ _)
            have HC2 : Hid (Lib.contains P.data.toList (⟨#[32, 108, 101, 118, 101, 108, 32]⟩ : ByteArray).data.toList = true) := Lib.hid (by rw [hP2]; exact line_level _ _)
            have HPX : Hid (Lib.hasPrefix P.data.toList ((nameX p.names y.atom).data.toList ++ [32, 98, 121, 32]) = true) := Lib.hid (by rw [hP2]; exact line_name _ _)
            clear kk k0 k1 k2 hP1 hP2 hok hy hc
            go_upto_region 16 with fail
            have hal := bal (Below.refl wr.heap.size wr) (.cells #[.int .i64 y.atom, .int .i64 y.rule, .int .i64 y.level] 49)
            have HYB := Lib.hid (Blk.new wr [.int .i64 y.atom, .int .i64 y.rule, .int .i64 y.level] 49)
            have HS4 := Lib.hid (HS3.out.on hal)
            have HB4 := Lib.hid (bon hb hal)
            have ky := HYB.out.cell
            clear hal hb q0 q1 q2
            generalize wr.alloc (.cells #[.int .i64 y.atom, .int .i64 y.rule, .int .i64 y.level] 49) = W4 at *
            generalize wr.heap.size = yb at *
            have hps : P.size + 1 ≤ 9223372036854775807 := by have := HPS.out; omega
            have HL1 : Hid ((⟨[y], []⟩ : XP).whys.length ≤ 100) := Lib.hid (by show 1 ≤ 100; omega)
            have HL2 : Hid ((⟨[y], []⟩ : XP).rest.length ≤ 100) := Lib.hid (by show 0 ≤ 100; omega)
            go_upto_region 20 with (first
              | (go_at_call 25; (with_reducible refine (split_call HTS1.out HS4.out.maxl).mono ?_); rintro e w5 ⟨n, rfl, hb5, hsz5, hcl⟩; obtain ⟨hkn, hkc⟩ := hcl k P HP.out; have HS5 := Lib.hid (HS4.out.on hb5); have HY5 := Lib.hid (HYB.out.below hb5); have kp5 := HS5.out.pbx.cell; have ky5 := HY5.out.cell; have HB5 := Lib.hid (bon HB4.out hb5); have hal5 := bal (Below.refl w5.heap.size w5) (.cells #[.int .i64 y.atom, .int .i64 y.rule, .int .i64 y.level] 49); have HS6 := Lib.hid (HS5.out.on hal5); have HY6 := Lib.hid (HY5.out.below hal5); have HB6 := Lib.hid (bon HB5.out hal5); have HX6 : Hid (ExplIs (w5.alloc (.cells #[.int .i64 y.atom, .int .i64 y.rule, .int .i64 y.level] 49)) (.agg #[.slice (some ⟨w5.heap.size, 0, none⟩) 1 1, .slice none 0 0]) ⟨[y], []⟩) := Lib.hid ⟨_, _, rfl, (MineY.one w5 HYI.out).whys (by show 1 * 24 ≤ _; omega), nil_ints _⟩; clear hb5 hcl hal5)
              | (go_at_call 13; (with_reducible refine (textt_any HT1.out HNT.out.2 HS6.out.pow HS6.out.prog HX6.out HL1.out HL2.out).mono ?_); rintro e w7 ⟨rfl, hb7⟩; have HS7 := Lib.hid (HS6.out.on hb7); have HY7 := Lib.hid (HY6.out.below hb7); have kp7 := HS7.out.pbx.cell; have ky7 := HY7.out.cell; have HB7 := Lib.hid (bon HB6.out hb7); clear hb7)
              | (go_at_call 22; (with_reducible refine (contM_call HC1.out HPS.out HS7.out.maxl).mono ?_); rintro e w8 ⟨rfl, rfl⟩)
              | (go_at_call 22; (with_reducible refine (contM_call HC2.out HPS.out HS7.out.maxl).mono ?_); rintro e w8 ⟨rfl, rfl⟩))
            clear kp5 ky5 hps
            generalize (⟨(textX p.names ⟨[y], []⟩).toArray⟩ : ByteArray) = T1 at *
            have hyi := HYI.out.1
            unfold InI at hyi
            by_cases h1 : 1 ≤ y.atom
            case neg =>
              go_wp2_with fail
              first
                | (go_roundw
                   case rel => (exact ⟨k + 1, hlt, by go_num, HB7.out⟩)
                   case measure => (simp [intOf]; omega))
                | (refine ⟨?_, ?_⟩
                   · (exact ⟨k + 1, hlt, by go_num, HB7.out⟩)
                   · (simp [intOf]; omega))
            by_cases h2 : y.atom ≤ (p.names.length : Int)
            case neg =>
              go_wp2_with fail
              first
                | (go_roundw
                   case rel => (exact ⟨k + 1, hlt, by go_num, HB7.out⟩)
                   case measure => (simp [intOf]; omega))
                | (refine ⟨?_, ?_⟩
                   · (exact ⟨k + 1, hlt, by go_num, HB7.out⟩)
                   · (simp [intOf]; omega))
            obtain ⟨q, hq⟩ : ∃ q : Nat, y.atom = (q : Int) + 1 := ⟨(y.atom - 1).toNat, by omega⟩
            have hqn : q < p.names.length := by omega
            obtain ⟨bn, offn, rfl, hbn, hcn⟩ := HCN.out (by omega)
            have kc := (bcell HS7.out.below _ _ hbn).trans (hcn q hqn)
            rw [hq] at ky7 HPX
            have HQ1 : Hid (((q : Int) + 1 - 1).toNat = q) := Lib.hid (by omega)
            have HQ := Lib.hid hq
            clear hcn hq ky
            by_cases h3 : (ixS p.names q).toList = []
            · have h3' : (ixS p.names q).toList.isEmpty = true := by rw [h3]; rfl
              go_wp2_with fail
              first
                | (go_roundw
                   case rel => (exact ⟨k + 1, hlt, by go_num, HB7.out⟩)
                   case measure => (simp [intOf]; omega))
                | (refine ⟨?_, ?_⟩
                   · (exact ⟨k + 1, hlt, by go_num, HB7.out⟩)
                   · (simp [intOf]; omega))
            · have h3' : (ixS p.names q).toList.isEmpty = false := by rw [List.isEmpty_eq_false_iff]; exact h3
              have HPZ : Hid (Lib.hasPrefix P.data.toList (ixS p.names q ++ ⟨#[32, 98, 121, 32]⟩ : ByteArray).data.toList = true) := Lib.hid (by
                have := HPX.out
                unfold nameX at this
                rw [HQ1.out, if_pos ⟨by omega, by omega, fun h => h3 (bytes_nil.1 h)⟩] at this
                simpa using this)
              have hnz : (ixS p.names q).size + 4 ≤ 9223372036854775807 := by
                have := HNT.out.2 q
                rw [Array.length_toList] at this
                show (ixS p.names q).data.size + 4 ≤ _
                omega
              go_wp2_with (go_at_call 26; (with_reducible refine (pref_call HPZ.out).mono ?_); rintro e w9 ⟨rfl, rfl⟩)
              first
                | (go_roundw
                   case rel => (exact ⟨k + 1, hlt, by go_num, HB7.out⟩)
                   case measure => (simp [intOf]; omega))
                | (refine ⟨?_, ?_⟩
                   · (exact ⟨k + 1, hlt, by go_num, HB7.out⟩)
                   · (simp [intOf]; omega))
          · obtain rfl : k = x.whys.length := by omega
            go_wp2_with ((go_at_call 7; (with_reducible refine (awake41_any _).mono ?_); rintro e w9 ⟨rfl, hb9⟩; have HB9 := Lib.hid (HS3.out.on hb9).below; clear hb9))
            go_ret
            exact ⟨rfl, HB9.out⟩
theorem ew_law {W : World} {vp vx : Value} {p : GP} {x : XP} (hP : ProgIs W vp p) (hX : ExplIs W vx x) (hT : Pow10 W) (hM : ∃ M, MaxL M W) :
    Calls Tryz.prog 4 #[vp, vx] W fun e W' => e = .returned (.bool true) ∧ Below W.heap.size W W' :=
  let ⟨M, hM⟩ := hM
  ew_walk vp vx p x M W hP hX hT hM
theorem maxl_of {W : World} (h : W.ShapedOpen Tryz.prog) : ∃ M, MaxL M W := by
  obtain ⟨M, hM⟩ := Go.Proofs.cell_of_shapedOpen_int (P := Tryz.prog) (w := W) (g := 0) (zero := #[.int .i64 0]) (t := 3) h (of_decide_eq_true (by kernel_rfl)) (by kernel_rfl) rfl (by kernel_rfl) (by kernel_rfl) Tryz.underlying3
  refine ⟨M, hM, ?_⟩
  apply Decidable.byContradiction
  intro hn
  rw [World.cell?] at hM
  rw [Array.getElem?_eq_none (by omega)] at hM
  simp at hM
end Go.Proofs.YtgakoainjgjimaaGreatDoor
