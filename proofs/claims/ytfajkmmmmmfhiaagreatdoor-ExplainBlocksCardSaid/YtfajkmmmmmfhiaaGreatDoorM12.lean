/- My texts Tx1, Bld, Tx2, PbV, Cmpct, SortI, Sub, Stb1, Ex8, Ex9, merged. -/
import Derived.Test.YtfajkmmmmmfhiaaGreatDoorM09
import Derived.Test.YtfajkmmmmmfhiaaGreatDoorM07
import Derived.Test.YtfajkmmmmmfhiaaGreatDoorM06
import Derived.Test.YtfajkmmmmmfhiaaGreatDoorM05
import Derived.Test.YtfajkmmmmmfhiaaGreatDoorM04
import Derived.Test.YtfajkmmmmmfhiaaGreatDoorM03
import Derived.Test.YtfajkmmmmmfhiaaGreatDoorM00
import Derived.Test.YtfajkmmmmmfhiaaGreatDoorProg
import Derived.WalkKit
import Derived.Lib.Hide
import Derived.Deep.QuietTactic
import Derived.BigQuiet
import Derived.WalkSpells
import Derived.Lib.SliceRun
import Derived.MapKept
import Derived.Maps.OwnSet
import Derived.Maps.OwnOps
import Derived.Test.YtfajkmmmmmfhiaaGreatDoorM02
import Derived.Test.YtfajkmmmmmfhiaaGreatDoorM01
import Derived.Deep.AppendLies
import Derived.Lib.Bytealg
import Derived.Deep.DeepCutAuto
import Derived.Laws.EntriesVeiled
import Derived.Deep.RegionWith
import Derived.Deep.OwnRows
import Derived.RangeFuncNested
import Derived.RangeFuncBound
import Derived.RangeFuncCalls
import Derived.RangeFuncLeaves
import Derived.OwnWalkIn
import Derived.TacticsInMore
import Derived.LoopNIn
import Derived.LoopIn
import Derived.Stop.RegionWithIn
import Derived.Shelf.Abstract
import Derived.Deep.LoopGhost
import Derived.Deep.DrawnRows
import Derived.Shelf.Sort.Plain
import Derived.Shelf.Slices.CompactI
import Derived.Shelf.Slices.In.SortNone
import Derived.Shelf.Strconv.Itoa3
import Derived.Shelf.Strings.BuilderK
import Derived.Shelf.Slices.SearchI
import Derived.Shelf.Slices.Empties
import Derived.Lib.ItoaNum
import Derived.Lib.SlicesCompact
import Derived.Sort.OwnSortedInts
import Derived.Test.YtfajkmmmmmfhiaaGreatDoorM08
import Derived.Deep.AppendSrc

namespace Go.Proofs.YtfajkmmmmmfhiaaGreatDoor
open Go.RowKit
def itS (n : Int) : ByteArray := ⟨(Lib.itoa n).toArray⟩
def ItO (w : World) (n : Int) : Prop := ∀ W, Below w.heap.size w W → Calls Tryz.prog 61 #[.int .i64 n] W fun e W' => e = .returned (.string (itS n)) ∧ Below W.heap.size W W'
theorem ItO.below {w w' : World} {n : Int} (h : ItO w n) (hb : Below w.heap.size w w') : ItO w' n := fun W hW => h W (bon hb hW)
theorem ItO.small {w : World} {n : Int} (h : 0 ≤ n ∧ n < 100) : ItO w n := fun W _ => by
  obtain ⟨i, rfl⟩ : ∃ i : Nat, n = i := ⟨n.toNat, by omega⟩
  refine (Tryz.strconv_Itoa_small i (by omega) W).mono fun e W' ⟨h1, h2⟩ => ?_
  subst h2
  refine ⟨h1.trans ?_, Below.refl _ _⟩
  unfold itS Lib.itoa
  rw [if_neg (by omega)]
  rfl
def nameX (l : List ByteArray) (a : Int) : ByteArray := if 1 ≤ a ∧ a ≤ (l.length : Int) ∧ ixS l (a - 1).toNat ≠ ⟨#[]⟩ then ixS l (a - 1).toNat else ⟨#[35]⟩ ++ itS a
theorem bytes_nil {s : ByteArray} : s = ⟨#[]⟩ ↔ s.toList = [] := by
  constructor
  · rintro rfl; rw [Lib.toList_data]
  · intro h
    rw [Lib.toList_data] at h
    cases s with
    | mk d => cases d with
      | mk l => simp at h; subst h; rfl
set_option maxHeartbeats 1000000 in
theorem name_any (l : List ByteArray) (vn vs vr vm : Value) (n : Int) (b : Nat) (a : Int) (w : World) (ha : InI a) (hl : Strs w vn l) (hb : Blk w b [.int .i64 n, vn, vs, vr, vm] 27) (hI : ItO w a) (h100 : (itS a).size ≤ 100) :
    Calls Tryz.prog 60 #[.int .i64 a, .pointer (some ⟨b, 0, none⟩)] w fun e w' => e = .returned (.string (nameX l a)) ∧ Below w.heap.size w w' := by
  obtain ⟨an, cn, rfl, -, hl1, hl2, hsz, hat⟩ := hl.form
  have kb := hb.cell
  have hlt := hb.lt
  unfold InI at ha
  have HI := Lib.hid (hI w (Below.refl _ _))
  by_cases h1 : 1 ≤ a
  · by_cases h2 : a ≤ (l.length : Int)
    · obtain ⟨k, rfl⟩ : ∃ k : Nat, a = (k : Int) + 1 := ⟨(a - 1).toNat, by omega⟩
      have hk : k < l.length := by omega
      obtain ⟨bn, off, rfl, hbn, hcn⟩ := hat (by omega)
      have kc := hcn k hk
      have HK : Hid (((k : Int) + 1 - 1).toNat = k) := Lib.hid (by omega)
      by_cases h3 : (ixS l k).toList = []
      · have h3' : (ixS l k).toList.isEmpty = true := by rw [h3]; rfl
        have HN : Hid (nameX l ((k : Int) + 1) = ⟨#[35]⟩ ++ itS ((k : Int) + 1)) := Lib.hid (by unfold nameX; rw [HK.out, if_neg (fun h => h.2.2 (bytes_nil.2 h3))])
        clear hcn hsz hat HK
        go_enter Tryz.func60, Tryz.ntmps60
        go_wp2_with (go_at_call 61; (with_reducible refine (HI.out).mono ?_); rintro e w1 ⟨rfl, hb1⟩)
        go_ret
        exact ⟨by rw [HN.out]; rfl, hb1⟩
      · have h3' : (ixS l k).toList.isEmpty = false := by rw [List.isEmpty_eq_false_iff]; exact h3
        have HN : Hid (nameX l ((k : Int) + 1) = ixS l k) := Lib.hid (by unfold nameX; rw [HK.out, if_pos ⟨h1, h2, fun h => h3 (bytes_nil.1 h)⟩])
        clear hcn hsz hat HK
        go_enter Tryz.func60, Tryz.ntmps60
        go_wp2_with (go_at_call 61; (with_reducible refine (HI.out).mono ?_); rintro e w1 ⟨rfl, hb1⟩)
        go_ret
        exact ⟨by rw [HN.out]; rfl, Below.refl _ _⟩
    · have HN : Hid (nameX l a = ⟨#[35]⟩ ++ itS a) := Lib.hid (by unfold nameX; rw [if_neg (fun h => h2 h.2.1)])
      clear hsz hat
      go_enter Tryz.func60, Tryz.ntmps60
      go_wp2_with (go_at_call 61; (with_reducible refine (HI.out).mono ?_); rintro e w1 ⟨rfl, hb1⟩)
      go_ret
      exact ⟨by rw [HN.out]; rfl, hb1⟩
  · have HN : Hid (nameX l a = ⟨#[35]⟩ ++ itS a) := Lib.hid (by unfold nameX; rw [if_neg (fun h => h1 h.1)])
    clear hsz hat
    go_enter Tryz.func60, Tryz.ntmps60
    go_wp2_with (go_at_call 61; (with_reducible refine (HI.out).mono ?_); rintro e w1 ⟨rfl, hb1⟩)
    go_ret
    exact ⟨by rw [HN.out]; rfl, hb1⟩
abbrev BAt (B b : Nat) (p : Value) (bs : List Value) (w : World) : Prop := Lib.BuilderAtF 100 5 B b p bs w
abbrev IsB (B b : Nat) (bs : List Value) (w : World) : Prop := Lib.IsBuilderF 100 5 B b bs w
theorem infoB : (Tryz.prog.info? 5).map (fun i => (i.zero, i.size, i.bytes)) = some (some (.int .u8 0), 1, 1) := by kernel_rfl
theorem sizeB : (Tryz.prog.info? 100).map (·.size) = some 2 := by kernel_rfl
set_option maxHeartbeats 1000000 in
set_option maxRecDepth 100000 in
theorem cc_fresh (b : Nat) (w : World) (h0 : w.cell? ⟨b, 0, none⟩ = some (.pointer none)) (hsh : w.shape? b = some (100, 2)) (hfz : w.frozen? ⟨b, 0, none⟩ = false) :
    Calls Tryz.prog 120 #[.pointer (some ⟨b, 0, none⟩)] w fun e w' => e = .returned (.tuple #[]) ∧ w' = w.setCell ⟨b, 0, none⟩ (.pointer (some ⟨b, 0, none⟩)) := by
  obtain ⟨j, hj, hjs⟩ := Option.map_eq_some_iff.1 sizeB
  go_enter Tryz.func120, Tryz.ntmps120
  go_wp2
  rw [Lib.run_to_unsafe w ⟨b, 0, none⟩ Tryz.underlying97 Tryz.underlying185 hj (by rw [hjs]; decide) hsh (Nat.zero_lt_succ 1)]
  simp only [Result.andThen]
  rw [Oper.upon_value]
  go_wp2
  rw [run_callFunc_extern Tryz.func161 (by kernel_rfl) (by kernel_rfl) (by kernel_rfl) (e := Extern.AbiNoEscape.same) (by kernel_rfl)]
  rw [Lib.run_noEscape]
  simp only [Result.andThen]
  rw [Oper.upon_value]
  go_wp2
  rw [Lib.run_from_unsafe w ⟨b, 0, none⟩ Tryz.underlying185 Tryz.underlying97 hj hsh Tryz.Builder_Extra_169.toX72.liesBuilder]
  simp only [Result.andThen]
  rw [Oper.upon_value]
  go_wp2
  go_end0
  exact ⟨rfl, rfl⟩
set_option maxHeartbeats 1000000 in
set_option maxRecDepth 100000 in
theorem cc_used (b : Nat) (w : World) (h0 : w.cell? ⟨b, 0, none⟩ = some (.pointer (some ⟨b, 0, none⟩))) :
    Calls Tryz.prog 120 #[.pointer (some ⟨b, 0, none⟩)] w fun e w' => e = .returned (.tuple #[]) ∧ w' = w := by
  obtain ⟨j, hj, _⟩ := Option.map_eq_some_iff.1 sizeB
  go_enter Tryz.func120, Tryz.ntmps120
  go_wp2
  rw [Lib.run_neq_ptr_same w _ Tryz.underlying97 hj]
  go_wp2
  go_end0
  exact ⟨rfl, rfl⟩
theorem cc_any (B b : Nat) (bs : List Value) (w : World) (h : IsB B b bs w) :
    Calls Tryz.prog 120 #[.pointer (some ⟨b, 0, none⟩)] w fun e w' => e = .returned (.tuple #[]) ∧ (BAt B b (.pointer (some ⟨b, 0, none⟩)) bs w' ∧ Below B w w' ∧ Lib.OthersKept 5 (some b) w w') := by
  rcases h with h | h
  · refine (cc_fresh b w h.cell0 h.shape h.frozen0).mono ?_
    rintro e w' ⟨rfl, rfl⟩
    exact ⟨rfl, h.used _, (Below.refl B w).setCell (p := ⟨b, 0, none⟩) h.1 _, (Lib.OthersKept.refl _ _ w).setCell ⟨b, 0, none⟩ rfl _⟩
  · refine (cc_used b w h.cell0).mono ?_
    rintro e w' ⟨rfl, rfl⟩
    exact ⟨rfl, h, Below.refl B _, Lib.OthersKept.refl _ _ _⟩
set_option maxHeartbeats 2000000 in
set_option maxRecDepth 100000 in
theorem ws_any (B b : Nat) (bs : List Value) (s : ByteArray) (w : World) (h : IsB B b bs w) (hlen : bs.length + s.size ≤ 140737488355328) (hBw : B ≤ w.heap.size) :
    Calls Tryz.prog 62 #[.pointer (some ⟨b, 0, none⟩), .string s] w fun e w' => e = .returned (.tuple #[.int .i64 s.size, .nilIface]) ∧ (BAt B b (.pointer (some ⟨b, 0, none⟩)) (bs ++ Lib.strCells s) w' ∧ Below B w w' ∧ Lib.OthersKept 5 (some b) w w') := by
  obtain ⟨i0, hi, hz0, hz1, hz2⟩ := info_parts infoB
  go_enter Tryz.func62, Tryz.ntmps62
  go_wp2_with (go_at_call 120; refine (cc_any B b bs _ h).mono ?_)
  rintro e w1 ⟨rfl, h1, hb1, hk1⟩
  obtain ⟨hB, v, hbk, hown, hne⟩ := h1
  have c0 : w1.cell? ⟨b, 0, none⟩ = some (.pointer (some ⟨b, 0, none⟩)) := by rw [Lib.cell_of_heap hbk]; rfl
  have c1 : w1.cell? ⟨b, 1, none⟩ = some v := by rw [Lib.cell_of_heap hbk]; rfl
  go_wp2_with (at_builtin; refine Lib.wpList_append_own_stringF _ rfl _ _ 98 9 rfl B 5 i0 Tryz.underlying98 Tryz.underlying9 hi hz0 hz1 hz2 _ _ _ rfl hown s rfl ?c3 ?c4 ?c5 ?_)
  case c3 => unfold maxLen; omega
  case c4 => omega
  case c5 => have := hb1.size; omega
  intro v' w2 hown' hgrow _
  have hlt : b < w1.heap.size := (Array.getElem?_eq_some_iff.1 hbk).1
  have hb2 : w2.heap[b]? = some (.cells #[.pointer (some ⟨b, 0, none⟩), v] 100 (0, 0)) := by
    rw [hgrow.block b hlt (fun e => hne e.symm)]
    exact hbk
  have d0 : w2.cell? ⟨b, 0, none⟩ = some (.pointer (some ⟨b, 0, none⟩)) := by rw [Lib.cell_of_heap hb2]; rfl
  have d1 : w2.cell? ⟨b, 1, none⟩ = some v := by rw [Lib.cell_of_heap hb2]; rfl
  have f1 : w2.frozen? ⟨b, 1, none⟩ = false := Lib.frozen_of_heap hb2 1
  obtain ⟨ao, n', cap, rfl⟩ : ∃ ao n' cap, v' = .slice ao n' cap := by
    rcases hown'.2 with ⟨hv, _⟩ | ⟨g, cap, cur, fz, hv, _⟩
    · exact ⟨_, _, _, hv⟩
    · exact ⟨_, _, _, hv⟩
  go_wp2
  go_ret2
  refine ⟨rfl, ?_, ?_, (hk1.grown hgrow (Lib.ownsRowF_kind hown)).setCell ⟨b, 1, none⟩ rfl _⟩
  · exact Lib.BuilderAtF.put (T := 100) (e := 5) hB hb2 (bs' := bs ++ Lib.strCells s) (by simpa [Lib.strCells_length] using hown') (by decide)
  · exact (hb1.grown hgrow (by have := hb1.size; omega) (fun k hk => (hown.lt k hk).1)).setCell (p := ⟨b, 1, none⟩) hB _
def lineX (l : List ByteArray) (y : WY) : List UInt8 := (nameX l y.atom).data.toList ++ ([32, 98, 121, 32] ++ ((itS y.rule).data.toList ++ ([32, 108, 101, 118, 101, 108, 32] ++ ((itS y.level).data.toList ++ [10]))))
def whysT (l : List ByteArray) (ys : List WY) : List UInt8 := ys.flatMap (lineX l)
def atomsT (l : List ByteArray) (as' : List Int) : List UInt8 := as'.flatMap fun a => [32] ++ (nameX l a).data.toList
def restT (l : List ByteArray) (r : List Int) : List UInt8 := if r.length = 0 then [] else [114, 101, 115, 116] ++ (atomsT l r ++ [10])
def textX (l : List ByteArray) (x : XP) : List UInt8 := whysT l x.whys ++ restT l x.rest
theorem whysT_snoc (l : List ByteArray) (a : List WY) (y : WY) : whysT l (a ++ [y]) = whysT l a ++ lineX l y := by simp [whysT]
theorem atomsT_snoc (l : List ByteArray) (a : List Int) (y : Int) : atomsT l (a ++ [y]) = atomsT l a ++ ([32] ++ (nameX l y).data.toList) := by simp [atomsT]
def OkN (w : World) (n : Int) : Prop := ItO w n ∧ (itS n).data.toList.length ≤ 100
theorem dec_small {n : Nat} (h : n < 100) : (Lib.decDigits n).length ≤ 2 := by
  unfold Lib.decDigits
  split
  · simp
  · have : n / 10 < 10 := by omega
    unfold Lib.decDigits
    rw [dif_pos this]
    simp
theorem OkN.small {w : World} {n : Int} (h : 0 ≤ n ∧ n < 100) : OkN w n := ⟨.small h, by
  unfold itS Lib.itoa
  rw [if_neg (by omega)]
  have := dec_small (n := n.toNat) (by omega)
  simp only
  omega⟩
theorem OkN.below {w w' : World} {n : Int} (h : OkN w n) (hb : Below w.heap.size w w') : OkN w' n := ⟨h.1.below hb, h.2⟩
theorem name_len {l : List ByteArray} {a : Int} (hl : ∀ i, (ixS l i).data.toList.length ≤ 40) (ha : (itS a).data.toList.length ≤ 100) : (nameX l a).data.toList.length ≤ 101 := by
  unfold nameX
  split
  · have := hl (a - 1).toNat; omega
  · rw [ByteArray.data_append]
    simp only [Array.toList_append, List.length_append, List.length_cons, List.length_nil]
    omega
theorem flat_len {α : Type} (f : α → List UInt8) (B : Nat) : ∀ (ys : List α), (∀ y ∈ ys, (f y).length ≤ B) → (ys.flatMap f).length ≤ B * ys.length
  | [], _ => by simp
  | y :: ys, h => by
    have a := h y (.head _)
    have b := flat_len f B ys fun z hz => h z (.tail _ hz)
    simp only [List.flatMap_cons, List.length_append, List.length_cons, Nat.mul_add, Nat.mul_one]
    omega
theorem line_data (a b c : ByteArray) : (((((a ++ ⟨#[32, 98, 121, 32]⟩) ++ b) ++ ⟨#[32, 108, 101, 118, 101, 108, 32]⟩) ++ c) ++ ⟨#[10]⟩ : ByteArray).data.toList = a.data.toList ++ ([32, 98, 121, 32] ++ (b.data.toList ++ ([32, 108, 101, 118, 101, 108, 32] ++ (c.data.toList ++ [10])))) := by
  simp [ByteArray.data_append]
abbrev bcT (l : List UInt8) : List Value := Lib.byteCells l
theorem bcT_app (a b : List UInt8) : bcT (a ++ b) = bcT a ++ bcT b := by simp [bcT, Lib.byteCells]
theorem IsB.on {b : Nat} {bs : List Value} {X Y : World} (h : IsB b b bs X) (hb : Below X.heap.size X Y) : IsB b b bs Y := by
  have hg : X.grownBy Y none := ⟨hb.os, hb.tape, hb.output, hb.size, fun i hi _ => hb.block i hi⟩
  have key : ∀ p, BAt b b p bs X → BAt b b p bs Y := fun p ⟨h1, v, h2, h3, h4⟩ =>
    ⟨h1, v, (hb.block b (Array.getElem?_eq_some_iff.1 h2).1).trans h2, h3.kept hg (by cases hv : v.ownBlock <;> simp), h4⟩
  exact h.elim (fun x => .inl (key _ x)) (fun x => .inr (key _ x))
structure StT (w : World) (b : Nat) (pc xc : List Value) (t : List UInt8) (W : World) : Prop where
  bld : IsB b b (bcT t) W
  below : Below w.heap.size w W
  pbx : Blk W w.heap.size pc 27
  xbx : Blk W (w.heap.size + 1) xc 30
  lt : w.heap.size + 1 < b
theorem StT.blt {w W : World} {b : Nat} {pc xc : List Value} {t : List UInt8} (h : StT w b pc xc t W) : b < W.heap.size := h.bld.elim (·.lt) (·.lt)
theorem StT.on {w W W' : World} {b : Nat} {pc xc : List Value} {t : List UInt8} (h : StT w b pc xc t W) (hb : Below W.heap.size W W') : StT w b pc xc t W' :=
  ⟨h.bld.on hb, bon h.below hb, h.pbx.below hb, h.xbx.below hb, h.lt⟩
theorem StT.ws {w W : World} {b : Nat} {pc xc : List Value} {t : List UInt8} (h : StT w b pc xc t W) (s : List UInt8) (S : ByteArray) (hS : S.data.toList = s) (hlen : t.length + s.length ≤ 1000000) :
    Calls Tryz.prog 62 #[.pointer (some ⟨b, 0, none⟩), .string S] W fun e W' => e = .returned (.tuple #[.int .i64 S.size, .nilIface]) ∧ StT w b pc xc (t ++ s) W' := by
  have hsz : S.size = s.length := by rw [← hS, Array.length_toList]; rfl
  have hb := h.blt
  have h3 := h.lt
  refine (ws_any b b (bcT t) S W h.bld (by rw [Lib.byteCells_length, hsz]; omega) (by omega)).mono ?_
  rintro e W' ⟨rfl, h1, h2, -⟩
  have e1 : Lib.strCells S = bcT s := by rw [← hS]; rfl
  rw [e1, ← bcT_app] at h1
  exact ⟨rfl, .inr h1, h.below.trans (h2.mono (by omega)), h.pbx.same (h2.block _ (by omega)), h.xbx.same (h2.block _ (by omega)), h.lt⟩
def txΦ (a b c : ByteArray) (i : Nat) (_ : List Value) (v : Value) (_ _ : Nat) (_ : World) : Prop := (i = 3 ∧ v = .string a) ∨ (i = 7 ∧ v = .string b) ∨ (i = 12 ∧ v = .string c)
theorem runWS (args : Array Value) (w : World) : (callFunc 62 args).run Tryz.prog w = .ok (.enter 62 args) w := by kernel_rfl
def Tx1Rel (w : World) (b : Nat) (pc xc : List Value) (l : List ByteArray) (ys : List WY) (i : Value) (wx : World) : Prop := ∃ k, k ≤ ys.length ∧ i = .int .i64 k ∧ StT w b pc xc (whysT l (ys.take k)) wx
def Tx2Rel (w : World) (b : Nat) (pc xc : List Value) (l : List ByteArray) (t0 : List UInt8) (ys : List Int) (i : Value) (wx : World) : Prop := ∃ k, k ≤ ys.length ∧ i = .int .i64 k ∧ StT w b pc xc (t0 ++ atomsT l (ys.take k)) wx
end Go.Proofs.YtfajkmmmmmfhiaaGreatDoor
namespace Go.Proofs.YtfajkmmmmmfhiaaGreatDoor
def ones (n : Nat) : List Int := List.replicate n 1
end Go.Proofs.YtfajkmmmmmfhiaaGreatDoor
namespace Go.Proofs.YtfajkmmmmmfhiaaGreatDoor
open Go.RowKit Go.Lib
theorem sortI_pairwise (l : List Int) : (l.mergeSort fun x y => decide (x ≤ y)).Pairwise (· ≤ ·) := by
  have := List.pairwise_mergeSort (le := fun x y : Int => decide (x ≤ y)) (fun a b c h1 h2 => by simp only [decide_eq_true_eq] at *; omega) (fun a b => by simp only [Bool.or_eq_true, decide_eq_true_eq]; omega) l
  exact this.imp fun h => by simpa using h
theorem sortI_mem (l : List Int) (x : Int) : x ∈ (l.mergeSort fun x y => decide (x ≤ y)) ↔ x ∈ l := (List.mergeSort_perm l _).mem_iff
theorem sortI_len (l : List Int) : (l.mergeSort fun x y => decide (x ≤ y)).length = l.length := List.length_mergeSort _
end Go.Proofs.YtfajkmmmmmfhiaaGreatDoor
namespace Go.Proofs.YtfajkmmmmmfhiaaGreatDoor
open Go.RowKit Go.Sort
theorem ix_map (l : List Int) : (List.range l.length).map (fun i => Value.int .i64 (ix l i)) = l.map (Value.int .i64) := by
  apply List.ext_getElem (by simp)
  intro i h1 h2
  simp only [List.length_map, List.length_range] at h1
  simp [ix, List.getD_eq_getElem?_getD, List.getElem?_eq_getElem h1]
theorem fits_mem {l s : List Int} (h : Fits l) (hm : ∀ x ∈ s, x ∈ l) : Fits s := fitI fun x hx => by
  obtain ⟨j, hj, e⟩ := List.mem_iff_getElem.1 (hm x hx)
  have := h j
  rw [ix_get hj, e] at this
  exact this
abbrev srt (l : List Int) : List Int := l.mergeSort fun x y => decide (x ≤ y)
end Go.Proofs.YtfajkmmmmmfhiaaGreatDoor
namespace Go.Proofs.YtfajkmmmmmfhiaaGreatDoor
open Go.RowKit
def SubRel (n : Int) (w0 : World) (v i : Value) (wx : World) : Prop :=
  ∃ k : Nat, (k : Int) ≤ n ∧ i = .int .i64 ((k : Int) + 1) ∧ ∃ l, QRow w0.heap.size wx v l ∧ l.length ≤ k ∧ (∀ x ∈ l, 1 ≤ x ∧ x ≤ k) ∧ Hid (l.Pairwise (· < ·)) ∧ Below w0.heap.size w0 wx
theorem SubRel.push {k : Nat} {l : List Int} {v : Value} {w0 w1 w4 : World} (hq : QRow w0.heap.size w1 v l) (hb : Below w0.heap.size w0 w1)
    (hg : (w1.alloc (.cells #[.int .i64 ((k : Int) + 1)] 3)).grownBy w4 v.ownBlock) : Below w0.heap.size w0 w4 := by
  have hf : ∀ i, v.ownBlock = some i → w0.heap.size ≤ i := fun i e => by
    rcases hq.2 with ⟨rfl, _⟩ | ⟨g, off, cap, cur, rfl, hbg, _⟩
    · cases e
    · simp only [Value.ownBlock, Option.some.injEq] at e; omega
  have hsz := hg.size
  simp at hsz
  have hbs := hb.size
  have hk : ∀ i, i < w0.heap.size → w4.heap[i]? = w1.heap[i]? := fun i hi => (hg.block i (by simp; omega) (fun e => by have := hf i e.symm; omega)).trans (Below.heap_alloc _ _ _ (by omega))
  exact hb.trans ⟨hg.os, hg.tape, hg.output, by omega, fun i hi => hk i hi⟩
theorem SubRel.mem {k : Nat} {l : List Int} (h : ∀ x ∈ l, 1 ≤ x ∧ x ≤ k) : ∀ x ∈ l ++ [(k : Int) + 1], 1 ≤ x ∧ x ≤ ((k + 1 : Nat) : Int) := fun x hx => by
  rcases List.mem_append.1 hx with h1 | h1
  · have := h x h1; omega
  · rw [List.mem_singleton] at h1; omega
set_option maxHeartbeats 1000000 in
theorem sEqual_any (v1 v2 : Value) (l1 l2 : List Int) (w : World) (h1 : Ints w v1 l1) (h2 : Ints w v2 l2) :
    Calls Tryz.prog 109 #[v1, v2] w fun e w' => e = .returned (.bool (decide (l1 = l2))) ∧ Below w.heap.size w w' := by
  have i1 := h1
  have i2 := h2
  obtain ⟨a1, c1, rfl, -, hl1, -, hc1⟩ := h1.form
  obtain ⟨a2, c2, rfl, -, hl2, -, hc2⟩ := h2.form
  clear h1 h2
  by_cases hlen : l1.length = l2.length
  · have hb0 : ((l1.length : Int) != (l2.length : Int)) = false := by simp [hlen]
    have HL := Lib.hid hlen
    have F1 := Lib.hid i1.2
    have F2 := Lib.hid i2.2
    clear hlen i1 i2
    go_enter Tryz.func109, Tryz.ntmps109
    go_wp2
    go_loopw [13] (fun i wx => IntsRel l1 l2 w i wx) (fun i _ => l1.length - (intOf i).toNat)
    case atStart => exact ⟨0, by omega, rfl, fun j hj => absurd hj (Nat.not_lt_zero _), Below.refl _ _⟩
    case round =>
      obtain ⟨k, hk, rfl, hall, hb⟩ := hrel
      have HA := Lib.hid hall
      clear hall
      by_cases hlt : k < l1.length
      · obtain ⟨b1, off1, rfl, hbl1, hcc1⟩ := hc1 (by omega)
        obtain ⟨b2, off2, rfl, hbl2, hcc2⟩ := hc2 (by have := HL.out; omega)
        have hlt2 : k < l2.length := by have := HL.out; omega
        have hlr1 : b1 < wr.heap.size := Nat.lt_of_lt_of_le hbl1 hb.size
        have hlr2 : b2 < wr.heap.size := Nat.lt_of_lt_of_le hbl2 hb.size
        have k1 : ∀ e : Ext wr, e.world.cell? ⟨b1, off1 + k, none⟩ = some (.int .i64 (ix l1 k)) := fun e => (bcell e.below _ _ hlr1).trans ((bcell hb _ _ hbl1).trans (hcc1 k hlt))
        have k2 : ∀ e : Ext wr, e.world.cell? ⟨b2, off2 + k, none⟩ = some (.int .i64 (ix l2 k)) := fun e => (bcell e.below _ _ hlr2).trans ((bcell hb _ _ hbl2).trans (hcc2 k hlt2))
        have f1 := F1.out k
        have f2 := F2.out k
        clear hcc1 hcc2 hc1 hc2
        by_cases he : ix l1 k = ix l2 k
        · have HN := Lib.hid (lt_succ_all HA.out he)
          have he' : (ix l1 k != ix l2 k) = false := by simp [he]
          clear he
          go_wp2
          refine wp_region_ext (by kernel_rfl) (by kernel_rfl) ?_
          repeat (go_big_quiet_step (fail))
          refine wpQuiet_nil ?_
          intro _ hw'
          obtain ⟨⟨w9, hb9⟩, rfl⟩ := hw'
          try dsimp only
          go_wp2
          first
            | (go_roundw
               case rel => (exact ⟨k + 1, by omega, by go_num, HN.out, bon hb hb9⟩)
               case measure => (simp [intOf]; omega))
            | (refine ⟨?_, ?_⟩
               · (exact ⟨k + 1, by omega, by go_num, HN.out, bon hb hb9⟩)
               · (simp [intOf]; omega))
        · have HF : Hid (decide (l1 = l2) = false) := Lib.hid (decide_eq_false (fun e => he (by rw [e])))
          have he' : (ix l1 k != ix l2 k) = true := by simp [he]
          clear he
          go_wp2
          refine wp_region_ext (by kernel_rfl) (by kernel_rfl) ?_
          repeat (go_big_quiet_step (fail))
          refine wpQuiet_nil ?_
          intro _ hw'
          obtain ⟨⟨w9, hb9⟩, rfl⟩ := hw'
          try dsimp only
          go_wp2
          go_ret
          exact ⟨ret_bool HF.out.symm, bon hb hb9⟩
      · have HF : Hid (decide (l1 = l2) = true) := Lib.hid (decide_eq_true (eq_of_ix HL.out (fun j hj => HA.out j (by omega))))
        go_wp2
        go_ret
        exact ⟨ret_bool HF.out.symm, hb⟩
  · have HF : Hid (decide (l1 = l2) = false) := Lib.hid (decide_eq_false (fun e => hlen (by rw [e])))
    have hb0 : ((l1.length : Int) != (l2.length : Int)) = true := by simp; omega
    clear hlen i1 i2
    go_enter Tryz.func109, Tryz.ntmps109
    go_wp2
    go_ret
    exact ⟨ret_bool HF.out.symm, Below.refl _ _⟩
theorem less_any (x y : Int) (w : World) : Calls Tryz.prog 144 #[.int .i64 x, .int .i64 y] w fun e w' => e = .returned (.bool (decide (x < y))) ∧ w = w' := by
  by_cases h : x < y
  · have hb := decide_eq_true h
    go_enter Tryz.func144, Tryz.ntmps144
    go_wp2_with (go_at_call 180; refine (isNaN_any _ _).mono ?_; rintro e w' ⟨rfl, rfl⟩)
    go_ret
    exact ⟨ret_bool hb.symm, rfl⟩
  · have hb := decide_eq_false h
    go_enter Tryz.func144, Tryz.ntmps144
    go_wp2_with (go_at_call 180; refine (isNaN_any _ _).mono ?_; rintro e w' ⟨rfl, rfl⟩)
    go_ret
    exact ⟨ret_bool hb.symm, rfl⟩
def IsrRel (n : Nat) (g : Nat → Bool) (W : World) (i : Value) (wx : World) : Prop := ∃ k : Nat, k ≤ n ∧ i = .int .i64 k ∧ (∀ j, k ≤ j → j < n → g j = true) ∧ Below W.heap.size W wx
set_option maxHeartbeats 2000000 in
theorem isSorted_any (v : Value) (l : List Int) (w : World) (h : Ints w v l) :
    Calls Tryz.prog 110 #[v] w fun e w' => e = .returned (.bool (allR (l.length - 1) (fun i => decide (ix l i ≤ ix l (i + 1))))) ∧ Below w.heap.size w w' := by
  obtain ⟨a1, c1, rfl, -, hl1, -, hcell⟩ := h.form
  have HC := Lib.hid hcell
  have HI := Lib.hid h.2
  clear h hcell
  by_cases h0 : l.length = 0
  · have HF : Hid (allR (l.length - 1) (fun i => decide (ix l i ≤ ix l (i + 1))) = true) := Lib.hid (allR_true fun j hj => by omega)
    rw [h0]
    rw [h0] at HF
    go_enter Tryz.func110, Tryz.ntmps110
    go_wp2
    go_loopw [3] (fun i wx => i = .int .i64 (-1) ∧ Below w.heap.size w wx) (fun _ _ => 0)
    case atStart => exact ⟨rfl, Below.refl _ _⟩
    case round =>
      obtain ⟨rfl, hb⟩ := hrel
      go_wp2
      go_ret
      exact ⟨ret_bool HF.out.symm, hb⟩
  · obtain ⟨n, hn⟩ : ∃ n, l.length = n + 1 := ⟨l.length - 1, by omega⟩
    have e1 : l.length - 1 = n := by omega
    have e2 : (l.length : Int) - 1 = n := by omega
    rw [e1]
    go_enter Tryz.func110, Tryz.ntmps110
    go_wp2
    try rw [e2]
    go_loopw [3] (fun i wx => IsrRel n (fun i => decide (ix l i ≤ ix l (i + 1))) w i wx) (fun i _ => (intOf i).toNat)
    case atStart => exact ⟨n, Nat.le_refl _, rfl, fun j h1 h2 => by omega, Below.refl _ _⟩
    case round =>
      obtain ⟨k, hk, rfl, hall, hb⟩ := hrel
      have HA := Lib.hid hall
      have HB := Lib.hid hb
      clear hall
      by_cases hk0 : 0 < k
      · obtain ⟨q, rfl⟩ : ∃ q, k = q + 1 := ⟨k - 1, by omega⟩
        obtain ⟨b, off, rfl, hbl, hc⟩ := HC.out (by omega)
        have hlr : b < wr.heap.size := Nat.lt_of_lt_of_le hbl hb.size
        have k1 : ∀ e : Ext wr, e.world.cell? ⟨b, off + (q + 1), none⟩ = some (.int .i64 (ix l (q + 1))) := fun e => (bcell e.below _ _ hlr).trans ((bcell hb _ _ hbl).trans (hc (q + 1) (by omega)))
        have k2 : ∀ e : Ext wr, e.world.cell? ⟨b, off + q, none⟩ = some (.int .i64 (ix l q)) := fun e => (bcell e.below _ _ hlr).trans ((bcell hb _ _ hbl).trans (hc q (by omega)))
        have eq1 : ((q + 1 : Nat) : Int) - 1 = q := by omega
        have eq2 : (((q + 1 : Nat) : Int) - 1).toNat = q := by omega
        by_cases hg : ix l (q + 1) < ix l q
        · have HL : Hid (∀ e : Ext wr, Calls Tryz.prog 144 #[.int .i64 (ix l (q + 1)), .int .i64 (ix l q)] e.world fun r w' => r = .returned (.bool true) ∧ Below e.world.heap.size e.world w') := Lib.hid fun e => (less_any _ _ _).mono fun r w' ⟨h1, h2⟩ => ⟨h1.trans (by rw [decide_eq_true hg]), h2 ▸ Below.refl _ _⟩
          have HF : Hid (allR n (fun i => decide (ix l i ≤ ix l (i + 1))) = false) := Lib.hid (allR_false q (by omega) (decide_eq_false (by omega)))
          clear hg hb hc
          go_upto_region 4 with fail
          refine wp_region_ext (by kernel_rfl) (by kernel_rfl) ?_
          repeat (go_big_quiet_step ((go_at_call 144; exact Calls.ext_of (HL.out _))))
          refine wpQuiet_nil ?_
          intro w9 hw'
          obtain ⟨e9, he9⟩ := hw'
          have hb9 := e9.below
          rw [← he9] at hb9
          clear he9 e9
          try dsimp only
          go_wp2
          go_ret
          exact ⟨ret_bool HF.out.symm, bon HB.out hb9⟩
        · have HL : Hid (∀ e : Ext wr, Calls Tryz.prog 144 #[.int .i64 (ix l (q + 1)), .int .i64 (ix l q)] e.world fun r w' => r = .returned (.bool false) ∧ Below e.world.heap.size e.world w') := Lib.hid fun e => (less_any _ _ _).mono fun r w' ⟨h1, h2⟩ => ⟨h1.trans (by rw [decide_eq_false hg]), h2 ▸ Below.refl _ _⟩
          have HN : Hid (∀ j, q ≤ j → j < n → decide (ix l j ≤ ix l (j + 1)) = true) := Lib.hid fun j h1 h2 => by
            by_cases e : j = q
            · subst e; exact decide_eq_true (by omega)
            · exact HA.out j (by omega) h2
          clear hg hb hc
          go_upto_region 4 with fail
          refine wp_region_ext (by kernel_rfl) (by kernel_rfl) ?_
          repeat (go_big_quiet_step ((go_at_call 144; exact Calls.ext_of (HL.out _))))
          refine wpQuiet_nil ?_
          intro w9 hw'
          obtain ⟨e9, he9⟩ := hw'
          have hb9 := e9.below
          rw [← he9] at hb9
          clear he9 e9
          try dsimp only
          go_wp2
          first
            | (go_roundw
               case rel => (exact ⟨q, by omega, by go_num, HN.out, bon HB.out hb9⟩)
               case measure => (simp [intOf]))
            | (refine ⟨?_, ?_⟩
               · (exact ⟨q, by omega, by go_num, HN.out, bon HB.out hb9⟩)
               · (simp [intOf]))
      · obtain rfl : k = 0 := by omega
        have HF : Hid (allR n (fun i => decide (ix l i ≤ ix l (i + 1))) = true) := Lib.hid (allR_true fun j hj => HA.out j (Nat.zero_le _) hj)
        go_wp2
        go_ret
        exact ⟨ret_bool HF.out.symm, HB.out⟩
def ordVal (x y : WY) : Int := orI (cmpI x.level y.level) (cmpI x.atom y.atom)
theorem ordVal_lt (x y : WY) : decide (ordVal y x < 0) = !ordY x y := by
  by_cases a : y.level < x.level <;> by_cases b : x.level < y.level <;> by_cases c : y.atom < x.atom <;> by_cases d : x.atom < y.atom <;> simp [ordVal, orI, cmpI, ordY, a, b, c, d] <;> omega
def oyΦ (c1 c2 : Int) (i : Nat) (_ : List Value) (v : Value) (lo hi : Nat) (w : World) : Prop :=
  match i with
  | 4 => v = .int .i64 c1
  | 9 => v = .int .i64 c2
  | 10 => v = .slice (some ⟨lo, 0, none⟩) 2 2 ∧ lo < hi ∧ Blk w lo [.int .i64 c1, .int .i64 c2] 3
  | _ => v = .int .i64 (orI c1 c2)
theorem oyΦ_later (c1 c2 : Int) : ∀ i args v lo hi w w', oyΦ c1 c2 i args v lo hi w → Below w.heap.size w w' → oyΦ c1 c2 i args v lo hi w' := by
  intro i args v lo hi w w' h hb
  unfold oyΦ at *
  split at h <;> first | exact h | exact ⟨h.1, h.2.1, h.2.2.below hb⟩
set_option maxHeartbeats 2000000 in
set_option maxRecDepth 100000 in
theorem ordc_any (x y : WY) (w : World) :
    Calls Tryz.prog 147 #[.agg #[.int .i64 x.atom, .int .i64 x.rule, .int .i64 x.level], .agg #[.int .i64 y.atom, .int .i64 y.rule, .int .i64 y.level]] w fun e w' => e = .returned (.int .i64 (ordVal x y)) ∧ Below w.heap.size w w' := by
  have hal := bal (bal (Below.refl w.heap.size w) (.cells #[.int .i64 x.atom, .int .i64 x.rule, .int .i64 x.level] 49)) (.cells #[.int .i64 y.atom, .int .i64 y.rule, .int .i64 y.level] 49)
  have hx := (Blk.new w [.int .i64 x.atom, .int .i64 x.rule, .int .i64 x.level] 49).alloc (.cells #[.int .i64 y.atom, .int .i64 y.rule, .int .i64 y.level] 49)
  have hy := Blk.new2 w (.cells #[.int .i64 x.atom, .int .i64 x.rule, .int .i64 x.level] 49) [.int .i64 y.atom, .int .i64 y.rule, .int .i64 y.level] 49
  have HAL := Lib.hid hal
  have HX := Lib.hid hx
  have HY := Lib.hid hy
  clear hal hx hy
  have HR : Hid (orI (cmpI x.level y.level) (cmpI x.atom y.atom) = ordVal x y) := Lib.hid rfl
  go_enter Tryz.func147, Tryz.ntmps147
  go_upto_region 1 with fail
  generalize (w.alloc (.cells #[.int .i64 x.atom, .int .i64 x.rule, .int .i64 x.level] 49)).alloc (.cells #[.int .i64 y.atom, .int .i64 y.rule, .int .i64 y.level] 49) = W at *
  have kx : ∀ e : Ext W, ∀ o, e.world.cell? ⟨w.heap.size, o, none⟩ = _ := fun e o => (bcell e.below _ o HX.out.lt).trans (HX.out.cell o)
  have ky : ∀ e : Ext W, ∀ o, e.world.cell? ⟨w.heap.size + 1, o, none⟩ = _ := fun e o => (bcell e.below _ o HY.out.lt).trans (HY.out.cell o)
  refine wp_region_perm' (oyΦ (cmpI x.level y.level) (cmpI x.atom y.atom)) (fun i => i == 4 || i == 9 || i == 10 || i == 11) (by kernel_rfl) (by kernel_rfl) (by kernel_rfl) (oyΦ_later _ _) ?_
  iterate 4 (refine walkP_calm rfl rfl rfl (fun K hK => ?_); go_big_quiet_op; refine hK _ ?_; clear hK K)
  refine walkP_mem rfl rfl (fun wa hba hFa => ?_) (fun v lo hi l g h => ?_)
  · go_simp
    exact (compare_any _ _ _).mono (fun e w2 ⟨h1, h2⟩ => ⟨_, h1, h2 ▸ Below.refl _ _, rfl⟩)
  obtain ⟨_, rfl⟩ := h
  simp only [Act.put, List.setIfInBounds_toArray, List.set_cons_succ, List.set_cons_zero]
  iterate 4 (refine walkP_calm rfl rfl rfl (fun K hK => ?_); go_big_quiet_op; refine hK _ ?_; clear hK K)
  refine walkP_mem rfl rfl (fun wa hba hFa => ?_) (fun v lo hi l g h => ?_)
  · go_simp
    exact (compare_any _ _ _).mono (fun e w2 ⟨h1, h2⟩ => ⟨_, h1, h2 ▸ Below.refl _ _, rfl⟩)
  obtain ⟨_, rfl⟩ := h
  simp only [Act.put, List.setIfInBounds_toArray, List.set_cons_succ, List.set_cons_zero]
  refine walkP_mem rfl rfl (fun wa hba hFa => ?_) (fun v10 lo10 hi10 l g h => ?_)
  · go_simp
    exact ⟨bal (Below.refl _ _) _, rfl, by simp, Blk.new _ _ _⟩
  obtain ⟨_, rfl, -, -⟩ := h
  simp only [Act.put, List.setIfInBounds_toArray, List.set_cons_succ, List.set_cons_zero]
  refine walkP_mem rfl rfl (fun wa hba hFa => ?_) (fun v lo hi l g h => ?_)
  · have f0 := hFa _ (.head _) (by kernel_rfl)
    obtain ⟨-, -, f0⟩ := f0
    go_simp
    exact (or_any _ _ _ _ (f0.cell 0) (f0.cell 1)).mono (fun e w2 ⟨h1, h2⟩ => ⟨_, h1, h2 ▸ Below.refl _ _, rfl⟩)
  obtain ⟨_, rfl⟩ := h
  simp only [Act.put, List.setIfInBounds_toArray, List.set_cons_succ, List.set_cons_zero]
  iterate 1 (refine walkP_calm rfl rfl rfl (fun K hK => ?_); go_big_quiet_op; refine hK _ ?_; clear hK K)
  intro wx hbx hF hI hP
  have HBX := Lib.hid hbx
  clear hF hI hP hbx
  go_wp2_with fail
  go_ret
  exact ⟨ret_int HR.out, bon HAL.out HBX.out⟩
set_option maxHeartbeats 2000000 in
theorem isSortedY_any (v : Value) (l : List WY) (w : World) (h : WhysIs w v l) :
    Calls Tryz.prog 146 #[v, .func (.func 147) #[] #[]] w fun e w' => e = .returned (.bool (allR (l.length - 1) (fun i => ordY (ixY l i) (ixY l (i + 1))))) ∧ Below w.heap.size w w' := by
  obtain ⟨a1, c1, rfl, -, hl1, -, hcell⟩ := h.form
  have HC := Lib.hid hcell
  clear h hcell
  by_cases h0 : l.length = 0
  · have HF : Hid (allR (l.length - 1) (fun i => ordY (ixY l i) (ixY l (i + 1))) = true) := Lib.hid (allR_true fun j hj => by omega)
    rw [h0]
    rw [h0] at HF
    go_enter Tryz.func146, Tryz.ntmps146
    go_wp2
    go_loopw [5] (fun i wx => i = .int .i64 (-1) ∧ Below w.heap.size w wx) (fun _ _ => 0)
    case atStart => exact ⟨rfl, Below.refl _ _⟩
    case round =>
      obtain ⟨rfl, hb⟩ := hrel
      go_wp2
      go_ret
      exact ⟨ret_bool HF.out.symm, hb⟩
  · obtain ⟨n, hn⟩ : ∃ n, l.length = n + 1 := ⟨l.length - 1, by omega⟩
    have e1 : l.length - 1 = n := by omega
    have e2 : (l.length : Int) - 1 = n := by omega
    rw [e1]
    go_enter Tryz.func146, Tryz.ntmps146
    go_wp2
    try rw [e2]
    go_loopw [5] (fun i wx => IsrRel n (fun i => ordY (ixY l i) (ixY l (i + 1))) w i wx) (fun i _ => (intOf i).toNat)
    case atStart => exact ⟨n, Nat.le_refl _, rfl, fun j h1 h2 => by omega, Below.refl _ _⟩
    case round =>
      obtain ⟨k, hk, rfl, hall, hb⟩ := hrel
      have HA := Lib.hid hall
      have HB := Lib.hid hb
      clear hall
      by_cases hk0 : 0 < k
      · obtain ⟨q, rfl⟩ : ∃ q, k = q + 1 := ⟨k - 1, by omega⟩
        obtain ⟨b, off, rfl, hbl, hc⟩ := HC.out (by omega)
        have hlr : b < wr.heap.size := Nat.lt_of_lt_of_le hbl hb.size
        have key : ∀ e : Ext wr, ∀ o, e.world.cell? ⟨b, o, none⟩ = w.cell? ⟨b, o, none⟩ := fun e o => (bcell e.below _ _ hlr).trans (bcell hb _ _ hbl)
        obtain ⟨p0, p1, p2⟩ := hc (q + 1) (by omega)
        obtain ⟨q0, q1, q2⟩ := hc q (by omega)
        have k10 : ∀ e : Ext wr, e.world.cell? ⟨b, off + (q + 1) * 3, none⟩ = some (.int .i64 (ixY l (q + 1)).atom) := fun e => (key e _).trans p0
        have k11 : ∀ e : Ext wr, e.world.cell? ⟨b, off + (q + 1) * 3 + 1, none⟩ = some (.int .i64 (ixY l (q + 1)).rule) := fun e => (key e _).trans p1
        have k12 : ∀ e : Ext wr, e.world.cell? ⟨b, off + (q + 1) * 3 + 2, none⟩ = some (.int .i64 (ixY l (q + 1)).level) := fun e => (key e _).trans p2
        have k20 : ∀ e : Ext wr, e.world.cell? ⟨b, off + q * 3, none⟩ = some (.int .i64 (ixY l q).atom) := fun e => (key e _).trans q0
        have k21 : ∀ e : Ext wr, e.world.cell? ⟨b, off + q * 3 + 1, none⟩ = some (.int .i64 (ixY l q).rule) := fun e => (key e _).trans q1
        have k22 : ∀ e : Ext wr, e.world.cell? ⟨b, off + q * 3 + 2, none⟩ = some (.int .i64 (ixY l q).level) := fun e => (key e _).trans q2
        have eq1 : ((q + 1 : Nat) : Int) - 1 = q := by omega
        have HL : Hid (∀ e : Ext wr, Calls Tryz.prog 147 #[.agg #[.int .i64 (ixY l (q + 1)).atom, .int .i64 (ixY l (q + 1)).rule, .int .i64 (ixY l (q + 1)).level], .agg #[.int .i64 (ixY l q).atom, .int .i64 (ixY l q).rule, .int .i64 (ixY l q).level]] e.world fun r w' => r = .returned (.int .i64 (ordVal (ixY l (q + 1)) (ixY l q))) ∧ Below e.world.heap.size e.world w') := Lib.hid fun e => ordc_any _ _ _
        have hov := ordVal_lt (ixY l q) (ixY l (q + 1))
        obtain ⟨ov, hovv⟩ : ∃ ov, ordVal (ixY l (q + 1)) (ixY l q) = ov := ⟨_, rfl⟩
        rw [hovv] at HL hov
        clear hovv hb hc p0 p1 p2 q0 q1 q2 key
        cases hg : ordY (ixY l q) (ixY l (q + 1)) with
        | false =>
          rw [hg] at hov
          have hov2 : ov < 0 := by simpa using hov
          have HF : Hid (allR n (fun i => ordY (ixY l i) (ixY l (i + 1))) = false) := Lib.hid (allR_false q (by omega) hg)
          clear hg hov
          go_upto_region 4 with fail
          refine wp_region_ext (by kernel_rfl) (by kernel_rfl) ?_
          repeat (go_big_quiet_step ((go_at_call 147; exact Calls.ext_of (HL.out _))))
          refine wpQuiet_nil ?_
          intro w9 hw'
          obtain ⟨e9, he9⟩ := hw'
          have hb9 := e9.below
          rw [← he9] at hb9
          clear he9 e9
          try dsimp only
          go_wp2
          go_ret
          exact ⟨ret_bool HF.out.symm, bon HB.out hb9⟩
        | true =>
          rw [hg] at hov
          have hov2 : ¬ ov < 0 := by simpa using hov
          have HN : Hid (∀ j, q ≤ j → j < n → ordY (ixY l j) (ixY l (j + 1)) = true) := Lib.hid fun j h1 h2 => by
            by_cases e : j = q
            · subst e; exact hg
            · exact HA.out j (by omega) h2
          clear hg hov
          go_upto_region 4 with fail
          refine wp_region_ext (by kernel_rfl) (by kernel_rfl) ?_
          repeat (go_big_quiet_step ((go_at_call 147; exact Calls.ext_of (HL.out _))))
          refine wpQuiet_nil ?_
          intro w9 hw'
          obtain ⟨e9, he9⟩ := hw'
          have hb9 := e9.below
          rw [← he9] at hb9
          clear he9 e9
          try dsimp only
          go_wp2
          first
            | (go_roundw
               case rel => (exact ⟨q, by omega, by go_num, HN.out, bon HB.out hb9⟩)
               case measure => (simp [intOf]))
            | (refine ⟨?_, ?_⟩
               · (exact ⟨q, by omega, by go_num, HN.out, bon HB.out hb9⟩)
               · (simp [intOf]))
      · obtain rfl : k = 0 := by omega
        have HF : Hid (allR n (fun i => ordY (ixY l i) (ixY l (i + 1))) = true) := Lib.hid (allR_true fun j hj => HA.out j (Nat.zero_le _) hj)
        go_wp2
        go_ret
        exact ⟨ret_bool HF.out.symm, HB.out⟩
theorem ordered_anyY (v : Value) (l : List WY) (w : World) (h : WhysIs w v l) :
    Calls Tryz.prog 111 #[v] w fun e w' => e = .returned (.bool (allR (l.length - 1) (fun i => ordY (ixY l i) (ixY l (i + 1))))) ∧ Below w.heap.size w w' := by
  have H := Lib.hid h
  obtain ⟨a1, c1, rfl, -⟩ := h.form
  clear h
  go_enter Tryz.func111, Tryz.ntmps111
  go_wp2_with (go_at_call 146; (with_reducible refine (isSortedY_any _ l _ H.out).mono ?_); rintro e w1 ⟨rfl, hb1⟩)
  go_ret
  exact ⟨rfl, hb1⟩
set_option maxHeartbeats 2000000 in
set_option maxRecDepth 100000 in
theorem vc_any (y : WY) (p : GP) (m lv : List Int) (n vn vs vr vm : Value) (bd ib mb lb pb : Nat) (w : World) (hd : DvF w bd ib mb lb m lv) (hp : Blk w pb [n, vn, vs, vr, vm] 27) (hr : RulesIs w vr p.rules) (hv : validE p = 0)
    (hi : 0 ≤ y.rule ∧ y.rule < p.rules.length) (hl : 1 ≤ y.level ∧ InI y.level) (hm : ∀ x ∈ m, 1 ≤ x ∧ x < lv.length) :
    Calls Tryz.prog 113 #[.agg #[.int .i64 y.atom, .int .i64 y.rule, .int .i64 y.level], .pointer (some ⟨bd, 0, none⟩), .pointer (some ⟨pb, 0, none⟩)] w fun e w' => e = .returned (.bool (!derT (lvT m lv (y.level - 1)) m (ixR p.rules y.rule.toNat) y.atom)) ∧ Below w.heap.size w w' := by
  obtain ⟨a1, c1, rfl, -, hl1, -, hcell⟩ := hr.form
  obtain ⟨i, hi0⟩ : ∃ i : Nat, y.rule = i := ⟨y.rule.toNat, by omega⟩
  have hil : i < p.rules.length := by omega
  rw [hi0, Int.toNat_natCast]
  obtain ⟨b, off, rfl, hbl, hc⟩ := hcell (by omega)
  obtain ⟨vh, vb, vw, ⟨k0, k1, k2, k3, k4, k5⟩, hsl⟩ := hc i hil
  have hal := bal (Below.refl w.heap.size w) (.cells #[.int .i64 y.atom, .int .i64 (i : Int), .int .i64 y.level] 49)
  have HAL := Lib.hid hal
  have HY := Lib.hid (Blk.new w [.int .i64 y.atom, .int .i64 (i : Int), .int .i64 y.level] 49)
  obtain ⟨v, h1, h2⟩ := hd.lvs
  have HD : Hid (∀ e : Ext (w.alloc (.cells #[.int .i64 y.atom, .int .i64 (i : Int), .int .i64 y.level] 49)), Calls Tryz.prog 106 #[.agg #[.bool (ixR p.rules i).choice, vh, .bool (ixR p.rules i).sum, .int .i64 (ixR p.rules i).bound, vb, vw], .int .i64 y.atom, .int .i64 (y.level - 1), .pointer (some ⟨ib, 0, none⟩), .pointer (some ⟨lb, 0, none⟩)] e.world fun r w' => r = .returned (.bool (derT (lvT m lv (y.level - 1)) m (ixR p.rules i) y.atom)) ∧ Below e.world.heap.size e.world w') := Lib.hid fun e =>
    der_any _ (ixR p.rules i) y.atom (y.level - 1) m lv ib lb mb v e.world ⟨_, _, _, rfl, hsl.below (bon hal e.below)⟩ (hd.inf.below (bon hal e.below)) (h1.below (bon hal e.below)) (h2.below (bon hal e.below)) (dvOk_valid hv hil) hm
  have hly := hl.2
  have hly1 := hl.1
  unfold InI at hly
  have hwr : wrap64 (y.level - 1) = y.level - 1 := by unfold wrap64; omega
  have kd : ∀ e : Ext (w.alloc (.cells #[.int .i64 y.atom, .int .i64 (i : Int), .int .i64 y.level] 49)), e.world.cell? ⟨bd, 0, none⟩ = some (.func (.func 106) #[] #[.pointer (some ⟨ib, 0, none⟩), .pointer (some ⟨lb, 0, none⟩)]) := fun e => (bcell (bon hal e.below) _ _ hd.fn.lt).trans (hd.fn.cell 0)
  have kp : ∀ e : Ext (w.alloc (.cells #[.int .i64 y.atom, .int .i64 (i : Int), .int .i64 y.level] 49)), ∀ o, e.world.cell? ⟨pb, o, none⟩ = _ := fun e o => (bcell (bon hal e.below) _ o hp.lt).trans (hp.cell o)
  have ky : ∀ e : Ext (w.alloc (.cells #[.int .i64 y.atom, .int .i64 (i : Int), .int .i64 y.level] 49)), ∀ o, e.world.cell? ⟨w.heap.size, o, none⟩ = _ := fun e o => (bcell e.below _ o HY.out.lt).trans (HY.out.cell o)
  have r0 : ∀ e : Ext (w.alloc (.cells #[.int .i64 y.atom, .int .i64 (i : Int), .int .i64 y.level] 49)), ∀ o u, w.cell? ⟨b, o, none⟩ = some u → e.world.cell? ⟨b, o, none⟩ = some u := fun e o u hu => (bcell (bon hal e.below) _ o hbl).trans hu
  have m0 : ∀ e : Ext (w.alloc (.cells #[.int .i64 y.atom, .int .i64 (i : Int), .int .i64 y.level] 49)), e.world.cell? ⟨b, off + i * 6, none⟩ = _ := fun e => r0 e _ _ k0
  have m1 : ∀ e : Ext (w.alloc (.cells #[.int .i64 y.atom, .int .i64 (i : Int), .int .i64 y.level] 49)), e.world.cell? ⟨b, off + i * 6 + 1, none⟩ = _ := fun e => r0 e _ _ k1
  have m2 : ∀ e : Ext (w.alloc (.cells #[.int .i64 y.atom, .int .i64 (i : Int), .int .i64 y.level] 49)), e.world.cell? ⟨b, off + i * 6 + 2, none⟩ = _ := fun e => r0 e _ _ k2
  have m3 : ∀ e : Ext (w.alloc (.cells #[.int .i64 y.atom, .int .i64 (i : Int), .int .i64 y.level] 49)), e.world.cell? ⟨b, off + i * 6 + 3, none⟩ = _ := fun e => r0 e _ _ k3
  have m4 : ∀ e : Ext (w.alloc (.cells #[.int .i64 y.atom, .int .i64 (i : Int), .int .i64 y.level] 49)), e.world.cell? ⟨b, off + i * 6 + 4, none⟩ = _ := fun e => r0 e _ _ k4
  have m5 : ∀ e : Ext (w.alloc (.cells #[.int .i64 y.atom, .int .i64 (i : Int), .int .i64 y.level] 49)), e.world.cell? ⟨b, off + i * 6 + 5, none⟩ = _ := fun e => r0 e _ _ k5
  clear hal hd hp hr hc k0 k1 k2 k3 k4 k5 hsl h1 h2 hm hl hi hcell hi0 r0
  go_enter Tryz.func113, Tryz.ntmps113
  go_upto_region 1 with fail
  generalize w.alloc (.cells #[.int .i64 y.atom, .int .i64 (i : Int), .int .i64 y.level] 49) = W at *
  refine wp_region_ext (by kernel_rfl) (by kernel_rfl) ?_
  repeat (go_big_quiet_step ((go_at_call 106; with_reducible exact Calls.ext_of (HD.out _))))
  refine wpQuiet_nil ?_
  intro w9 hw'
  obtain ⟨e9, he9⟩ := hw'
  have hb9 := e9.below
  rw [← he9] at hb9
  clear he9 e9
  try dsimp only
  go_wp2
  go_ret
  exact ⟨rfl, bon HAL.out hb9⟩
set_option maxHeartbeats 1000000 in
theorem idxY_vc (v : Value) (l : List WY) (w : World) (h : WhysIs w v l) (g : Nat → Bool) (k1 k2 : Value)
    (hg : ∀ w', Below w.heap.size w w' → ∀ j, j < l.length → Calls Tryz.prog 113 #[.agg #[.int .i64 (ixY l j).atom, .int .i64 (ixY l j).rule, .int .i64 (ixY l j).level], k1, k2] w' fun e w'' => e = .returned (.bool (g j)) ∧ Below w'.heap.size w' w'') :
    Calls Tryz.prog 149 #[v, .func (.func 113) #[] #[k1, k2]] w fun e w' => ∃ r, e = .returned (.int .i64 r) ∧ IxP l.length g r ∧ Below w.heap.size w w' := by
  obtain ⟨a1, c1, rfl, -, hl1, -, hcell⟩ := h.form
  have HG := Lib.hid hg
  clear h hg
  go_enter Tryz.func149, Tryz.ntmps149
  go_wp2
  go_loopw [8] (fun i wx => IxR l.length g w i wx) (fun i _ => l.length - (intOf i).toNat)
  case atStart => exact ⟨0, by omega, rfl, fun j hj => absurd hj (Nat.not_lt_zero _), Below.refl _ _⟩
  case round =>
    obtain ⟨k, hk, rfl, hall, hb⟩ := hrel
    have HA := Lib.hid hall
    clear hall
    by_cases hlt : k < l.length
    · obtain ⟨b, off, rfl, hbl, hc⟩ := hcell (by omega)
      obtain ⟨k0, k1, k2⟩ := hc k hlt
      have hk0 := (bcell hb _ _ hbl).trans k0
      have hk1 := (bcell hb _ _ hbl).trans k1
      have hk2 := (bcell hb _ _ hbl).trans k2
      clear hc hcell k0 k1 k2
      cases g1 : g k with
      | true =>
        have HK : Hid (_ = true) := Lib.hid g1
        have HC := Lib.hid (HG.out _ hb k hlt)
        rw [g1] at HC
        clear g1
        go_wp2_with (go_at_call 113; refine (HC.out).mono ?_; rintro e w1 ⟨rfl, hb1⟩)
        go_ret
        exact ⟨_, rfl, .inr ⟨k, hlt, rfl, HK.out, HA.out⟩, bon hb hb1⟩
      | false =>
        have HN := Lib.hid (lt_succ_all HA.out g1)
        have HC := Lib.hid (HG.out _ hb k hlt)
        rw [g1] at HC
        clear g1
        go_wp2_with (go_at_call 113; refine (HC.out).mono ?_; rintro e w1 ⟨rfl, hb1⟩)
        first
          | (go_roundw
             case rel => (exact ⟨k + 1, by omega, by go_num, HN.out, bon hb hb1⟩)
             case measure => (simp [intOf]; omega))
          | (refine ⟨?_, ?_⟩
             · (exact ⟨k + 1, by omega, by go_num, HN.out, bon hb hb1⟩)
             · (simp [intOf]; omega))
    · have HN : Hid (∀ j, j < l.length → g j = false) := Lib.hid (fun j hj => HA.out j (by omega))
      go_wp2
      go_ret
      exact ⟨_, rfl, .inl ⟨rfl, HN.out⟩, hb⟩
set_option maxHeartbeats 1000000 in
theorem ctnY_vc (v : Value) (l : List WY) (w : World) (h : WhysIs w v l) (g : Nat → Bool) (k1 k2 : Value)
    (hg : ∀ w', Below w.heap.size w w' → ∀ j, j < l.length → Calls Tryz.prog 113 #[.agg #[.int .i64 (ixY l j).atom, .int .i64 (ixY l j).rule, .int .i64 (ixY l j).level], k1, k2] w' fun e w'' => e = .returned (.bool (g j)) ∧ Below w'.heap.size w' w'') :
    Calls Tryz.prog 112 #[v, .func (.func 113) #[] #[k1, k2]] w fun e w' => e = .returned (.bool (anyR l.length g)) ∧ Below w.heap.size w w' := by
  have HI := Lib.hid (idxY_vc v l w h g k1 k2 hg)
  obtain ⟨a1, c1, rfl, -⟩ := h.form
  clear h hg
  go_enter Tryz.func112, Tryz.ntmps112
  go_wp2_with (go_at_call 149; refine (HI.out).mono ?_; rintro e w1 ⟨r, rfl, hr, hb1⟩; have HR := Lib.hid hr; clear hr)
  go_ret
  exact ⟨ret_bool HR.out.any, hb1⟩
theorem srt_eq {L m : List Int} (hm : m.Pairwise (· < ·)) : decide (srt L = m) = decide (L.Perm m) := by
  have hn : m.Nodup := hm.imp fun h => Int.ne_of_lt h
  rw [decide_eq_decide]
  constructor
  · intro h
    rw [← h]
    exact (List.mergeSort_perm L _).symm
  · intro h
    have hL : L.Nodup := h.nodup_iff.2 hn
    have hs : (srt L).Nodup := (List.mergeSort_perm L _).nodup_iff.2 hL
    have hp : (srt L).Pairwise (· < ·) := by
      have h1 := (sortI_pairwise L).and hs
      exact h1.imp fun ⟨a, b⟩ => Int.lt_iff_le_and_ne.2 ⟨a, b⟩
    exact sorted_eqP hp hm fun x => (sortI_mem L x).trans h.mem_iff
def OwnL (B : Nat) (w : World) (v : Value) (L : List Int) : Prop := w.ownsRow B 3 1 v L.length (L.map (Value.int .i64)) ∧ Fits L ∧ L.length * 8 ≤ 140737488355328
theorem OwnI.ownL {B : Nat} {w : World} {v : Value} {L : List Int} (h : OwnI B w v L) : OwnL B w v L := by
  obtain ⟨⟨hrow, h8⟩, hfit⟩ := h
  rw [ix_map] at hrow
  exact ⟨hrow, hfit, by omega⟩
theorem OwnL.ownI {B : Nat} {w : World} {v : Value} {L : List Int} (h : OwnL B w v L) (h8 : L.length * 8 ≤ 140737488351232) : OwnI B w v L := ⟨⟨by rw [ix_map]; exact h.1, h8⟩, h.2.1⟩
theorem OwnL.same {B : Nat} {w w' : World} {v : Value} {l : List Int} (h : OwnL B w v l) (hs : ∀ i, B ≤ i → i < w.heap.size → v.ownBlock = some i → w'.heap[i]? = w.heap[i]?) : OwnL B w' v l := by
  obtain ⟨⟨h1, h2⟩, h3⟩ := h
  refine ⟨⟨h1, ?_⟩, h3⟩
  rcases h2 with hn | ⟨g, cap, cur, rfl, hb, hg, rest⟩
  · exact .inl hn
  · exact .inr ⟨g, cap, cur, rfl, hb, (hs g hb (Array.getElem?_eq_some_iff.1 hg).1 rfl).trans hg, rest⟩
theorem OwnL.below {B : Nat} {w w' : World} {v : Value} {l : List Int} (h : OwnL B w v l) (hb : Below w.heap.size w w') : OwnL B w' v l := h.same fun i _ hi _ => hb.block i hi
theorem OwnL.slen {B : Nat} {w : World} {v : Value} {l : List Int} (h : OwnL B w v l) : ∃ a c, v = .slice a l.length c := by
  rcases h.1.2 with ⟨rfl, h0⟩ | ⟨g, cap, cur, rfl, _⟩
  · rw [h0]; exact ⟨_, _, rfl⟩
  · exact ⟨_, _, rfl⟩
theorem OwnL.lt {B : Nat} {w : World} {v : Value} {l : List Int} (h : OwnL B w v l) {g : Nat} (e : v.ownBlock = some g) : B ≤ g ∧ g < w.heap.size := by
  rcases h.1.2 with ⟨rfl, _⟩ | ⟨g', cap, cur, rfl, hb, hg, _⟩
  · cases e
  · have : g' = g := by simpa [Value.ownBlock] using e
    subst this
    exact ⟨hb, (Array.getElem?_eq_some_iff.1 hg).1⟩
theorem wpList_appendO {ops : Array Oper} {rest : List Oper} {o : Oper} {a : Act} {w : World} {Q : Exit → Act → World → Prop} (hgd : o.guard = none) (s x : Operand)
    (ho : o.op = .call { callee := .builtin .append, args := #[s, x], argTypes := #[23, 23] }) (B g0 : Nat) (v : Value) (L : List Int) (z : Int) (hs : a.eval s = v) (hx : a.eval x = .slice (some ⟨g0, 0, none⟩) 1 1) (h : OwnL B w v L) (hy : Blk w g0 [.int .i64 z] 3) (hz : InI z)
    (hlen : (L.length + 1) * 8 ≤ 140737488355328) (hbase : B ≤ w.heap.size)
    (hK : ∀ g cap w', OwnL B w' (.slice (some ⟨g, 0, none⟩) (L.length + 1) cap) (L ++ [z]) → w.grownBy w' v.ownBlock → wpList Tryz.prog ops Q rest (a.put o.dst (.slice (some ⟨g, 0, none⟩) (L.length + 1) cap)) w') : wpList Tryz.prog ops Q (o :: rest) a w := by
  obtain ⟨i0, hi, hz0, hz1, hz2⟩ := info_parts infoI
  obtain ⟨hrow, hfit, h8⟩ := h
  refine wpList_append_own w hgd s x _ ho B 3 i0 _ 1 8 Tryz.underlying23 hi hz0 hz1 hz2 rfl (by decide) _ L.length (L.map (Value.int .i64)) hs hrow ⟨g0, 0, none⟩ 1 1 [.int .i64 z] hx rfl (fun j u hu => ?_) (fun u hu => ?_) (by unfold maxLen; omega) (by omega) hbase (fun v' w' h1 h2 _ => ?_)
  · have hj : j = 0 := by have := (List.getElem?_eq_some_iff.1 hu).1; simp at this; exact this
    subst hj
    rw [Addr.add_lit, Nat.zero_add, hy.cell]
    exact hu
  · obtain rfl : u = .int .i64 z := by simpa using hu
    rfl
  · have hne : ∃ g2 cap2, v' = .slice (some ⟨g2, 0, none⟩) (L.length + 1) cap2 := by
      rcases h1.2 with ⟨-, h0⟩ | ⟨g2, cap2, cur2, rfl, _⟩
      · omega
      · exact ⟨g2, cap2, rfl⟩
    obtain ⟨g2, cap2, rfl⟩ := hne
    refine hK g2 cap2 w' ⟨?_, hfit.app (fitI fun y hy => (List.mem_singleton.1 hy) ▸ hz), by rw [List.length_append, List.length_singleton]; omega⟩ h2
    rw [List.map_append, List.length_append, List.length_singleton]
    exact h1
open Go.Sort in
theorem sortL_own {base : Nat} {w : World} {v : Value} {l : List Int} (h : OwnL base w v l) :
    Calls Tryz.prog 58 #[v] w fun e w' => e = .returned (.tuple #[]) ∧ OwnL base w' v (srt l) ∧ w.grownBy w' v.ownBlock := by
  have hfit : Fits (srt l) := fits_mem h.2.1 fun x hx => (sortI_mem l x).1 hx
  have hlen := sortI_len l
  have hb8 := h.2.2
  rcases h.1.2 with ⟨rfl, e⟩ | ⟨g, cap, cur, rfl, hb, hg, hn, hm, hs, hx⟩
  · have e0 : l = [] := List.eq_nil_of_length_eq_zero e
    subst e0
    refine (Tryz.slices_Sort_int_none none 0 w).mono ?_
    rintro e w' ⟨rfl, rfl⟩
    refine ⟨rfl, ?_, ⟨rfl, rfl, rfl, Nat.le_refl _, fun _ _ _ => rfl⟩⟩
    have e2 : srt [] = [] := by simp [srt]
    rw [e2]; exact h
  · have hH := holds_of_blockI (ss := l) hg (by simpa using hx)
    have hc := Tryz.slices_Sort_int g 0 cap l w hH (Array.getElem?_eq_some_iff.1 hg).1 (by omega)
    refine hc.mono ?_
    rintro e w' ⟨rfl, n, os, rfl⟩
    refine ⟨rfl, ⟨?_, hfit, by rw [hlen]; exact hb8⟩, grownBy_sortedI _⟩
    have h2 := ownsRow_sortedI (n := n) (os := os) (base := base) (ts := srt l) hlen hb hg hn hm hs
    rw [hlen]
    exact h2
theorem sEqual_len (a1 a2 : Option Addr) (n1 n2 c1 c2 : Nat) (w : World) (hn : n1 ≠ n2) (_h1 : n1 ≤ 1000000000000000 ∧ n2 ≤ 1000000000000000) :
    Calls Tryz.prog 109 #[.slice a1 n1 c1, .slice a2 n2 c2] w fun e w' => e = .returned (.bool false) ∧ Below w.heap.size w w' := by
  have hb : ((n1 : Int) != (n2 : Int)) = true := by simp; omega
  go_enter Tryz.func109, Tryz.ntmps109
  go_wp2
  go_ret
  exact ⟨rfl, Below.refl _ _⟩
theorem sEqualL_any (v1 v2 : Value) (l1 l2 : List Int) (B : Nat) (w : World) (h1 : OwnL B w v1 l1) (h2 : Ints w v2 l2) (hl : l2.length ≤ 100000) :
    Calls Tryz.prog 109 #[v1, v2] w fun e w' => e = .returned (.bool (decide (l1 = l2))) ∧ Below w.heap.size w w' := by
  by_cases hlen : l1.length = l2.length
  · exact sEqual_any v1 v2 l1 l2 w (h1.ownI (by omega)).ints h2
  · obtain ⟨a1, c1, rfl⟩ := h1.slen
    obtain ⟨a2, c2, rfl, -⟩ := h2.form
    rw [decide_eq_false (fun e => hlen (by rw [e]))]
    exact sEqual_len _ _ _ _ _ _ w hlen (by have := h1.2.2; omega)
def VlRel (p : GP) (x : XP) (N : Nat) (W0 : World) (va i : Value) (wx : World) : Prop :=
  ∃ j : Nat, j ≤ x.whys.length ∧ i = .int .i64 j ∧ (∀ q, q < j → rngY p (ixY x.whys q) = true) ∧ Blk wx W0.heap.size ((lvL N (x.whys.take j)).map (Value.int .i64)) 3 ∧ OwnL (W0.heap.size + 1) wx va (x.rest ++ atomsY (x.whys.take j)) ∧ Below W0.heap.size W0 wx
end Go.Proofs.YtfajkmmmmmfhiaaGreatDoor
