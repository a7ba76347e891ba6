/- My texts ShI, OkN, Et41a, Frame, FrameE, FrameS, merged. -/
import Derived.Shelf.Strconv.Itoa3
import Derived.Test.YtgakoainjgjimaaGreatDoorM07
import Derived.Shelf.Sort.Plain
import Derived.Shelf.Slices.CompactI
import Derived.Shelf.Slices.In.SortNone
import Derived.Shelf.Strings.BuilderK
import Derived.Shelf.Slices.SearchI
import Derived.Shelf.Slices.Empties
import Derived.Test.YtgakoainjgjimaaGreatDoorProg
import Derived.Test.YtgakoainjgjimaaGreatDoorM14
import Derived.Test.YtgakoainjgjimaaGreatDoorM09
import Derived.Test.YtgakoainjgjimaaGreatDoorM05
import Derived.Test.YtgakoainjgjimaaGreatDoorM04
import Derived.Test.YtgakoainjgjimaaGreatDoorM03
import Derived.Test.YtgakoainjgjimaaGreatDoorM00
import Derived.WalkKit
import Derived.Lib.Hide
import Derived.Deep.QuietTactic
import Derived.BigQuiet
import Derived.WalkSpells
import Derived.Lib.SliceRun
import Derived.MapKept
import Derived.Maps.OwnSet
import Derived.Maps.OwnOps
import Derived.Test.YtgakoainjgjimaaGreatDoorM02
import Derived.Test.YtgakoainjgjimaaGreatDoorM01
import Derived.Deep.AppendLies
import Derived.Lib.Bytealg
import Derived.Deep.DeepCutAuto
import Derived.Laws.EntriesVeiled
import Derived.Deep.RegionWith
import Derived.Deep.OwnRows
import Derived.Test.YtgakoainjgjimaaGreatDoorM06
import Derived.RangeFuncNested
import Derived.RangeFuncBound
import Derived.RangeFuncCalls
import Derived.RangeFuncLeaves
import Derived.OwnWalkIn
import Derived.TacticsInMore
import Derived.LoopNIn
import Derived.LoopIn
import Derived.Stop.RegionWithIn
import Derived.Shelf.Abstract
import Derived.Deep.LoopGhost
import Derived.Deep.DrawnRows
import Derived.Lib.ItoaNum
import Derived.Lib.ItoaLen
import Derived.Lib.AppendIntMem
import Derived.Test.YtgakoainjgjimaaGreatDoorM13
import Derived.Test.YtgakoainjgjimaaGreatDoorM11
import Derived.Test.YtgakoainjgjimaaGreatDoorM10
import Derived.Test.YtgakoainjgjimaaGreatDoorM08
import Derived.Deep.AppendSrc
import Derived.Lib.SlicesCompact
import Derived.Sort.OwnSortedInts
import Derived.Test.YtgakoainjgjimaaGreatDoorM12
import Derived.Sort.QuietThIn
import Derived.Maps.RangeWalk
import Derived.RangeFuncBox
import Derived.Maps.OwnIn
import Derived.Lib.RowBridge
import Derived.Test.YtgakoainjgjimaaGreatDoorM17
import Derived.Test.YtgakoainjgjimaaGreatDoorM16
import Derived.Test.YtgakoainjgjimaaGreatDoorM15
import Derived.Test.YtgakoainjgjimaaGreatDoorM18
import Derived.Deep.DeepMust
import Derived.ProofKit
import Derived.OpenShut
import Derived.ChangeArms
import Derived.SizedLaws
import Derived.Deep.RegionHeld3
import Derived.Laws.ResultCell
import Derived.Laws.Rows
import Derived.Deep.RegionLaw
import Derived.Sort.CutIn
import Derived.Laws.IdiomStrings
import Derived.Handed
import Derived.Lib.LaidTab
import Derived.LaidSub
import Derived.LaidMore
import Derived.Lay

namespace Go.Proofs.YtgakoainjgjimaaGreatDoor
open Go.Shelf
def Tryz.laysM171_ren : Go.Shelf.Ren := ⟨fun | 171 => 49 | 243 => 101 | 246 => 140 | 283 => 172 | 284 => 173 | 285 => 174 | 286 => 175 | 129 => 139 | 317 => 192 | 318 => 193 | 319 => 194 | 320 => 195 | 337 => 199 | 338 => 200 | n => n, fun | 3 => 3 | 9 => 9 | 2 => 2 | 4 => 4 | 171 => 189 | 0 => 0 | 53 => 167 | 37 => 88 | 5 => 5 | 173 => 191 | 212 => 209 | 51 => 165 | 20 => 20 | 213 => 210 | 46 => 132 | 232 => 216 | 233 => 217 | n => n, fun | 17 => 1 | 18 => 4 | 19 => 5 | n => n⟩
theorem Tryz.laysM171 : Go.Proofs.LaysM.n171 Tryz.prog Tryz.laysM171_ren := {
  mixed := by kernel_rfl
  f129 := Tryz.func139.trans (congrArg some (by kernel_rfl))
  f171 := Tryz.func49.trans (congrArg some (by kernel_rfl))
  f243 := Tryz.func101.trans (congrArg some (by kernel_rfl))
  f246 := Tryz.func140.trans (congrArg some (by kernel_rfl))
  f283 := Tryz.func172.trans (congrArg some (by kernel_rfl))
  f284 := Tryz.func173.trans (congrArg some (by kernel_rfl))
  f285 := Tryz.func174.trans (congrArg some (by kernel_rfl))
  f286 := Tryz.func175.trans (congrArg some (by kernel_rfl))
  f317 := Tryz.func192.trans (congrArg some (by kernel_rfl))
  f318 := Tryz.func193.trans (congrArg some (by kernel_rfl))
  f319 := Tryz.func194.trans (congrArg some (by kernel_rfl))
  f320 := Tryz.func195.trans (congrArg some (by kernel_rfl))
  f337 := Tryz.func199.trans (congrArg some (by kernel_rfl))
  f338 := Tryz.func200.trans (congrArg some (by kernel_rfl))
  t0 := Tryz.underlying0
  a0 := Tryz.isAgg0
  z0 := Tryz.sizeOf0
  v0 := Tryz.zeroValue0
  t2 := Tryz.underlying2
  a2 := Tryz.isAgg2
  z2 := Tryz.sizeOf2
  v2 := Tryz.zeroValue2
  t3 := Tryz.underlying3
  a3 := Tryz.isAgg3
  z3 := Tryz.sizeOf3
  v3 := Tryz.zeroValue3
  t4 := Tryz.underlying4
  a4 := Tryz.isAgg4
  z4 := Tryz.sizeOf4
  v4 := Tryz.zeroValue4
  t5 := Tryz.underlying5
  a5 := Tryz.isAgg5
  z5 := Tryz.sizeOf5
  v5 := Tryz.zeroValue5
  t9 := Tryz.underlying9
  a9 := Tryz.isAgg9
  z9 := Tryz.sizeOf9
  v9 := Tryz.zeroValue9
  t20 := Tryz.underlying20
  a20 := Tryz.isAgg20
  z20 := Tryz.sizeOf20
  v20 := Tryz.zeroValue20
  t37 := Tryz.underlying88
  a37 := Tryz.isAgg88
  z37 := Tryz.sizeOf88
  v37 := Tryz.zeroValue88
  t46 := Tryz.underlying132
  a46 := Tryz.isAgg132
  z46 := Tryz.sizeOf132
  v46 := Tryz.zeroValue132
  t51 := Tryz.underlying165
  a51 := Tryz.isAgg165
  z51 := Tryz.sizeOf165
  v51 := Tryz.zeroValue165
  t53 := Tryz.underlying167
  a53 := Tryz.isAgg167
  z53 := Tryz.sizeOf167
  v53 := Tryz.zeroValue167
  t171 := Tryz.underlying189
  a171 := Tryz.isAgg189
  z171 := Tryz.sizeOf189
  v171 := Tryz.zeroValue189
  t173 := Tryz.underlying191
  a173 := Tryz.isAgg191
  z173 := Tryz.sizeOf191
  v173 := Tryz.zeroValue191
  t212 := Tryz.underlying209
  a212 := Tryz.isAgg209
  z212 := Tryz.sizeOf209
  v212 := Tryz.zeroValue209
  t213 := Tryz.underlying210
  a213 := Tryz.isAgg210
  z213 := Tryz.sizeOf210
  t232 := Tryz.underlying216
  a232 := Tryz.isAgg216
  z232 := Tryz.sizeOf216
  v232 := Tryz.zeroValue216
  t233 := Tryz.underlying217
  a233 := Tryz.isAgg217
  z233 := Tryz.sizeOf217
  v233 := Tryz.zeroValue217
  g17 := by kernel_rfl
  g18 := by kernel_rfl
  g19 := by kernel_rfl
  i0 := by kernel_rfl
  i2 := by kernel_rfl
  i3 := by kernel_rfl
  i4 := by kernel_rfl
  i5 := by kernel_rfl
  i9 := by kernel_rfl
  i20 := by kernel_rfl
  i37 := by kernel_rfl
  i46 := by kernel_rfl
  i51 := by kernel_rfl
  i53 := by kernel_rfl
  i171 := by kernel_rfl
  i173 := by kernel_rfl
  i212 := by kernel_rfl
  i232 := by kernel_rfl
  i233 := by kernel_rfl
  m17 := by kernel_rfl
  m18 := by kernel_rfl
  m19 := by kernel_rfl }
open Go.RowKit Go.Sort Go.Lib in
theorem Tryz.strconv_Itoa (n : Int) (h0 : -9223372036854775808 ≤ n) (h1 : n ≤ 9223372036854775807) (w : World) (htab : Lib.TabIs Tryz.prog w "internal/strconv.uint64pow10" .u64 Lib.pow10Tab) :
    Calls Tryz.prog 49 #[.int .i64 n] w fun e w' => e = .returned (.string ⟨(Lib.itoa n).toArray⟩) ∧ ∃ k os, w' = grow (w.drewN k) os := Any.strconv_Itoa Tryz.laysM171 n h0 h1 w htab
end Go.Proofs.YtgakoainjgjimaaGreatDoor
namespace Go.Proofs.YtgakoainjgjimaaGreatDoor
open Go.RowKit
def Pow10 (w : World) : Prop := Lib.TabIs Tryz.prog w "internal/strconv.uint64pow10" .u64 Lib.pow10Tab
theorem pow10_named : ∃ g, Tryz.prog.globalNamed "internal/strconv.uint64pow10" = some g := by
  first
    | exact ⟨1, by kernel_rfl⟩
    | exact ⟨4, by kernel_rfl⟩
    | exact ⟨5, by kernel_rfl⟩
    | exact ⟨2, by kernel_rfl⟩
    | exact ⟨3, by kernel_rfl⟩
    | exact ⟨0, by kernel_rfl⟩
    | exact ⟨6, by kernel_rfl⟩
theorem Pow10.below {w w' : World} (h : Pow10 w) (hb : Below w.heap.size w w') : Pow10 w' := by
  obtain ⟨g, hg⟩ := pow10_named
  unfold Pow10 Lib.TabIs World.var? at *
  rw [hg] at h ⊢
  simp only [Option.bind_some] at h ⊢
  have hlt : g < w.heap.size := Nat.lt_of_not_le fun hge => by
    rw [Array.getElem?_eq_none hge] at h
    cases h
  rw [hb.block g hlt]
  exact h
theorem OkN.any {w : World} {n : Int} (hT : Pow10 w) (hn : InI n) : OkN w n := by
  refine ⟨fun W hW => ?_, ?_⟩
  · unfold InI at hn
    refine (Tryz.strconv_Itoa n (by omega) (by omega) W (hT.below hW)).mono ?_
    rintro e W' ⟨rfl, k, os, rfl⟩
    exact ⟨rfl, Lib.below_grow _ _ (Nat.le_refl _) _ _⟩
  · unfold InI at hn
    have := Lib.itoa_length_le n (by omega) (by omega)
    unfold itS
    show (Lib.itoa n).toArray.toList.length ≤ 100
    rw [List.toList_toArray]
    omega
theorem fits_mem41 {l : List Int} (h : Fits l) {a : Int} (ha : a ∈ l) : InI a := by
  obtain ⟨i, hi, rfl⟩ := List.getElem_of_mem ha
  have := h i
  unfold InI
  simpa [ix, List.getD, hi] using this
section
variable {v vset vx : Value} {p : GP} {m : List Int} {x : XP} {w : World}
theorem okn_whys (hP : Pow10 w) (hx : ExplIs w vx x) : (∀ y ∈ x.whys, OkN w y.atom ∧ OkN w y.rule ∧ OkN w y.level) ∧ ∀ a ∈ x.rest, OkN w a := by
  obtain ⟨_, _, _, h1, h2⟩ := hx
  exact ⟨fun y hy => ⟨.any hP (h1.2 y hy).1, .any hP (h1.2 y hy).2.1, .any hP (h1.2 y hy).2.2⟩, fun a ha => .any hP (fits_mem41 h2.2 ha)⟩
theorem textt_any {T : ByteArray} (hT : ⟨(textX p.names x).toArray⟩ = T) (hn : ∀ i, (ixS p.names i).data.toList.length ≤ 40) (hP : Pow10 w) (h : ProgIs w v p) (hx : ExplIs w vx x) (hwl : x.whys.length ≤ 100) (hrl : x.rest.length ≤ 100) :
    Calls Tryz.prog 13 #[v, vx] w fun e w' => e = .returned (.string T) ∧ Below w.heap.size w w' := by
  obtain ⟨h1, h2⟩ := okn_whys hP hx
  have := text_any v vx p x w h hx hn h1 h2 hwl hrl
  rwa [hT] at this
end
end Go.Proofs.YtgakoainjgjimaaGreatDoor
namespace Go.Proofs.YtgakoainjgjimaaGreatDoor
open Go.RowKit Go.WideShapes
section
variable {H : Type} {enc : TypeId × Value → H} {w : World} {r : Reach} {b0 : Nat} {v : Value} {d : DataW H} {q : List MemPlace}
theorem arg_reads {P : Program} {t : TypeId} (h : DataW.Trod enc P w 0 (fun _ => true) true t v d q) (hw : ∀ m ∈ d.weights P t, m ≤ reachBytes) : Reads enc P w t v.cells.toList := by
  obtain ⟨fuel, hf⟩ := h
  exact ⟨fuel, _, hf, hw⟩
set_option maxRecDepth 100000 in
theorem arg_Prog (hv : Value.okWide Tryz.prog w r b0 27 v) (h : DataW.Trod enc Tryz.prog w 0 (fun _ => true) true 27 v d q) (hw : ∀ m ∈ d.weights Tryz.prog 27, m ≤ reachBytes) : ∃ p, ProgIs w v p := by
  obtain ⟨cs, rfl, -⟩ := okWide_struct Tryz.underlying27 hv
  have hr := arg_reads h hw
  obtain ⟨p, vn, vs, vr, vm, he, hp⟩ := open_Prog hr
  refine ⟨p, vn, vs, vr, vm, ?_, hp⟩
  have : cs.toList = [.int .i64 p.n, vn, vs, vr, vm] := by simpa [Value.cells] using he
  congr 1
  exact Array.toList_inj.1 this
end
end Go.Proofs.YtgakoainjgjimaaGreatDoor
namespace Go.Proofs.YtgakoainjgjimaaGreatDoor
open Go.RowKit Go.WideShapes
theorem cellsWhy : Tryz.prog.cellsOf 49 = 3 := by kernel_rfl
theorem cellsExpl : Tryz.prog.cellsOf 30 = 2 := by kernel_rfl
theorem cellsYs : Tryz.prog.cellsOf 28 = 1 := by kernel_rfl
theorem twoC {cs : List Value} (h : cs.length = 2) : ∃ a b, cs = [a, b] := by
  match cs, h with
  | [a, b], _ => exact ⟨a, b, rfl⟩
section
variable {H : Type} {enc : TypeId × Value → H} {w : World} {r : Reach} {b0 : Nat} {v : Value} {d : DataW H} {q : List MemPlace}
theorem open_Why {cs : List Value} (h : Reads enc Tryz.prog w 49 cs) : ∃ y : WY, cs = cellsY y ∧ YI y := by
  have hl := open_len Tryz.underlying49 h
  have f0 := open_at Tryz.underlying49 h 0 3 0 1 rfl cellsI
  have f1 := open_at Tryz.underlying49 h 1 3 1 1 rfl cellsI
  have f2 := open_at Tryz.underlying49 h 2 3 2 1 rfl cellsI
  rw [cellsWhy] at hl
  obtain ⟨c0, c1, c2, rfl⟩ := three hl
  simp only [List.drop_succ_cons, List.drop_zero, List.take_succ_cons, List.take_zero] at f0 f1 f2
  obtain ⟨n0, h0, g0⟩ := open_int1 Tryz.underlying3 f0
  obtain ⟨n1, h1, g1⟩ := open_int1 Tryz.underlying3 f1
  obtain ⟨n2, h2, g2⟩ := open_int1 Tryz.underlying3 f2
  simp only [List.cons.injEq, and_true] at h0 h1 h2
  subst h0 h1 h2
  exact ⟨⟨n0, n1, n2⟩, rfl, wf_i64 g0, wf_i64 g1, wf_i64 g2⟩
theorem open_Whys {cs : List Value} (h : Reads enc Tryz.prog w 28 cs) : ∃ v l, cs = [v] ∧ WhysIs w v l := by
  obtain ⟨a, n, cap, rfl, h1, h2, h3, h4⟩ := open_slc (sz := 3) (byt := 24) Tryz.underlying28 cellsWhy (by omega) (by kernel_rfl) h
  by_cases hp : 0 < n
  · obtain ⟨b, off, rfl, hb, hel⟩ := h4 hp
    obtain ⟨l, hl, hq⟩ := list_of (default : WY) (Q := fun i (y : WY) => (∀ j, j < 3 → w.cell? ⟨b, off + i * 3 + j, none⟩ = some (whyCell y j)) ∧ YI y) n (fun i hi => by
      obtain ⟨cs', h5, h6, h7⟩ := hel i hi
      obtain ⟨y, rfl, hy⟩ := open_Why h7
      refine ⟨y, fun j hj => ?_, hy⟩
      rw [h6 j hj]
      rcases (show j = 0 ∨ j = 1 ∨ j = 2 by omega) with rfl | rfl | rfl <;> rfl)
    refine ⟨_, l, rfl, ⟨_, cap, by rw [hl], by omega, h2, by rw [hl]; omega, fun _ => ⟨b, off, rfl, hb, fun i hi j hj => ?_⟩⟩, fun y hy => ?_⟩
    · exact (hq i (by omega)).1 j hj
    · obtain ⟨i, hi, rfl⟩ := List.getElem_of_mem hy
      have := (hq i (by omega)).2
      rwa [show l.getD i default = l[i] by simp [List.getD_eq_getElem?_getD, List.getElem?_eq_getElem hi]] at this
  · obtain rfl : n = 0 := by omega
    exact ⟨_, [], rfl, ⟨a, cap, rfl, h1, h2, by simp, fun h => absurd h (by simp)⟩, fun y hy => absurd hy List.not_mem_nil⟩
set_option maxRecDepth 100000 in
theorem arg_Expl (hv : Value.okWide Tryz.prog w r b0 30 v) (h : DataW.Trod enc Tryz.prog w 0 (fun _ => true) true 30 v d q) (hw : ∀ m ∈ d.weights Tryz.prog 30, m ≤ reachBytes) : ∃ x, ExplIs w v x := by
  obtain ⟨cs, rfl, -⟩ := okWide_struct Tryz.underlying30 hv
  have hr := arg_reads h hw
  have hl := open_len Tryz.underlying30 hr
  have f0 := open_at Tryz.underlying30 hr 0 28 0 1 rfl cellsYs
  have f1 := open_at Tryz.underlying30 hr 1 23 1 1 rfl cellsIs
  rw [cellsExpl] at hl
  obtain ⟨c0, c1, hc⟩ := twoC hl
  rw [hc] at f0 f1
  simp only [List.drop_succ_cons, List.drop_zero, List.take_succ_cons, List.take_zero] at f0 f1
  obtain ⟨v0, l0, h0, g0⟩ := open_Whys f0
  obtain ⟨v1, l1, h1, g1⟩ := open_Ints f1
  simp only [List.cons.injEq, and_true] at h0 h1
  subst h0 h1
  refine ⟨⟨l0, l1⟩, c0, c1, ?_, g0, g1⟩
  have : cs.toList = [c0, c1] := by simpa [Value.cells] using hc
  congr 1
  exact Array.toList_inj.1 this
end
end Go.Proofs.YtgakoainjgjimaaGreatDoor
namespace Go.Proofs.YtgakoainjgjimaaGreatDoor
open Go.RowKit
set_option maxRecDepth 100000 in
theorem pow10_of {W : World} {laid : List (String × DataW Unit)} (h : laidMetH Tryz.prog laid W)
    (e : laid.filter (fun x => x.1 == "internal/strconv.uint64pow10") = [("internal/strconv.uint64pow10", Lib.tabData .u64 Lib.pow10Tab)]) : Pow10 W := by
  have h1 := h.filter (fun x => x.1 == "internal/strconv.uint64pow10")
  rw [e] at h1
  rw [MakeChecks.laidMetH_plain _ _ _ (by kernel_rfl)] at h1
  exact Lib.tabIs_of_head (g := 1) (t := 209) (e := 167) (n := 20) (by kernel_rfl) (by kernel_rfl) Tryz.underlying209 Tryz.underlying167 (by kernel_rfl) (by kernel_rfl) h1
end Go.Proofs.YtgakoainjgjimaaGreatDoor
