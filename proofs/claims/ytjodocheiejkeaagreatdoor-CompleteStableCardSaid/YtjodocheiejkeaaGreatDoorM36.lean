/- My texts Aw2, CpS, StI, Sb26, merged. -/
import Derived.Test.YtjodocheiejkeaaGreatDoorM33
import Derived.Test.YtjodocheiejkeaaGreatDoorM08
import Derived.Test.YtjodocheiejkeaaGreatDoorM32
import Derived.Test.YtjodocheiejkeaaGreatDoorM04
import Derived.Test.YtjodocheiejkeaaGreatDoorM03
import Derived.Test.YtjodocheiejkeaaGreatDoorM02
import Derived.Test.YtjodocheiejkeaaGreatDoorM00
import Derived.Test.YtjodocheiejkeaaGreatDoorProg
import Derived.WalkKit
import Derived.Lib.Hide
import Derived.Deep.QuietTactic
import Derived.BigQuiet
import Derived.WalkSpells
import Derived.Lib.SliceRun
import Derived.MapKept
import Derived.Maps.OwnSet
import Derived.Maps.OwnOps
import Derived.Test.YtjodocheiejkeaaGreatDoorM01
import Derived.Deep.AppendLies
import Derived.Lib.Bytealg
import Derived.Test.YtjodocheiejkeaaGreatDoorM05
import Derived.Test.YtjodocheiejkeaaGreatDoorM28
import Derived.Deep.DeepCutAuto
import Derived.Test.YtjodocheiejkeaaGreatDoorM07
import Derived.Test.YtjodocheiejkeaaGreatDoorM29
import Derived.Test.YtjodocheiejkeaaGreatDoorM06
import Derived.Laws.EntriesVeiled
import Derived.Deep.RegionWith
import Derived.RangeFuncNested
import Derived.RangeFuncBound
import Derived.RangeFuncCalls
import Derived.RangeFuncLeaves
import Derived.OwnWalkIn
import Derived.TacticsInMore
import Derived.LoopNIn
import Derived.LoopIn
import Derived.Stop.RegionWithIn
import Derived.Shelf.Abstract
import Derived.Deep.OwnRows
import Derived.Shelf.Sort.Plain
import Derived.Shelf.Slices.CompactI
import Derived.Shelf.Slices.In.SortNone
import Derived.Shelf.Strconv.Itoa3
import Derived.Shelf.Strings.BuilderK
import Derived.Sort.QuietThIn
import Derived.Test.YtjodocheiejkeaaGreatDoorM11
import Derived.Test.YtjodocheiejkeaaGreatDoorM10
import Derived.Test.YtjodocheiejkeaaGreatDoorM09
import Derived.Maps.RangeWalk
import Derived.Lib.SlicesCompact
import Derived.Sort.OwnSortedInts
import Derived.RangeFuncBox
import Derived.Maps.OwnIn
import Derived.Lib.RowBridge
import Derived.Deep.AppendSrc
import Derived.Test.YtjodocheiejkeaaGreatDoorM12
import Derived.Test.YtjodocheiejkeaaGreatDoorM35
import Derived.Test.YtjodocheiejkeaaGreatDoorM34
import Derived.Deep.DeepMust
import Derived.Test.YtjodocheiejkeaaGreatDoorM17
import Derived.Test.YtjodocheiejkeaaGreatDoorM16
import Derived.Test.YtjodocheiejkeaaGreatDoorM15
import Derived.Test.YtjodocheiejkeaaGreatDoorM14
import Derived.Test.YtjodocheiejkeaaGreatDoorM13
import Derived.Deep.LoopGhost
import Derived.Deep.DrawnRows
import Derived.ProofKit
import Derived.OpenShut
import Derived.ChangeArms
import Derived.SizedLaws
import Derived.Test.YtjodocheiejkeaaGreatDoorM21
import Derived.Test.YtjodocheiejkeaaGreatDoorM20
import Derived.Test.YtjodocheiejkeaaGreatDoorM19
import Derived.Test.YtjodocheiejkeaaGreatDoorM18
import Derived.Deep.RegionHeld3
import Derived.Laws.ResultCell
import Derived.Laws.Rows
import Derived.Deep.RegionLaw
import Derived.Sort.CutIn
import Derived.Shelf.SlSortCmp.NoneTotal
import Derived.Shelf.SlLaysF
import Derived.Shelf.SlSortCmp.Kit1
import Derived.RangeFuncOwn

namespace Go.Proofs.YtjodocheiejkeaaGreatDoor
open Go.RowKit
theorem compl_valid {p : GP} (hv : validE p = 0) (v : Value) (w : World) (h : ProgIs w v p) {n : Nat} (hn : (compL p).length = n) :
    Calls Tryz.prog 9 #[v] w fun e w' => ∃ a c, e = .returned (.tuple #[.slice a n c, .int .i64 0]) ∧ PBsIs w' (.slice a n c) (compL p) ∧ Below w.heap.size w w' :=
  (compl_any v p w h).mono fun e w' ⟨vo, h1, h2, h3⟩ => by
    rw [if_pos hv] at h1 h2
    obtain ⟨a, c, rfl, -⟩ := h2.form
    rw [hn] at h1 h2
    exact ⟨a, c, h1, h2, h3⟩
theorem two_compl (v : Value) (w : World) (h : ProgIs w v twoP) :
    Calls Tryz.prog 9 #[v] w fun e w' => ∃ a c, e = .returned (.tuple #[.slice a 8 c, .int .i64 0]) ∧ PBsIs w' (.slice a 8 c) (compL twoP) ∧ Below w.heap.size w w' := compl_valid two_valid v w h (by rw [two_comp]; rfl)
theorem tsum_compl (v : Value) (w : World) (h : ProgIs w v tsumP) :
    Calls Tryz.prog 9 #[v] w fun e w' => ∃ a c, e = .returned (.tuple #[.slice a 6 c, .int .i64 0]) ∧ PBsIs w' (.slice a 6 c) (compL tsumP) ∧ Below w.heap.size w w' := compl_valid tsum_valid v w h tsum_len
theorem sum3_of {W : World} {a : Option Addr} {c : Nat} (h : PBsIs W (.slice a 6 c) (compL tsumP)) :
    ∃ b o v0 u0 v1 u1 v2 u2, a = some ⟨b, o, none⟩ ∧ Sum3 a b o v0 u0 v1 u1 v2 u2 W := by
  obtain ⟨a2, c2, e, -, -, -, hc⟩ := h.form
  simp only [Value.slice.injEq] at e
  obtain ⟨rfl, -, -⟩ := e
  obtain ⟨b, o, rfl, hb, hcc⟩ := hc (by rw [tsum_len]; omega)
  obtain ⟨v0, u0, h0, s0⟩ := hcc 0 (by rw [tsum_len]; omega)
  obtain ⟨v1, u1, h1, s1⟩ := hcc 1 (by rw [tsum_len]; omega)
  obtain ⟨v2, u2, h2, s2⟩ := hcc 2 (by rw [tsum_len]; omega)
  rw [show ixC (compL tsumP) 0 = ct1 from tsum_0] at h0 s0
  rw [show ixC (compL tsumP) 1 = ct2 from tsum_1] at h1 s1
  rw [show ixC (compL tsumP) 2 = ct3 from tsum_2] at h2 s2
  exact ⟨b, o, v0, u0, v1, u1, v2, u2, rfl, hb, h0, h1, h2, s0.is, s1.is, s2.is⟩
theorem two_vars : varsI twoP = 4 := by kernel_rfl
theorem two_body : bodyI twoP 1 = 4 := by kernel_rfl
theorem twoT_small : ∀ x ∈ twoT, x.size ≤ 1000 := by decide
theorem two_sp1 : (decide (validE twoP = 0) && (setQ twoP.n [1] && suppB twoP [1])) = true := by kernel_rfl
theorem two_sp0 : (decide (validE twoP = 0) && (setQ twoP.n [] && suppB twoP [])) = false := by kernel_rfl
theorem row_strs {B n : Nat} {v : Value} {l : List ByteArray} {w : World} (h : w.ownsRow B 9 1 v n (l.map Value.string)) (hn : n = l.length) (hs : ∀ x ∈ l, x.size ≤ 1000) (hl : l.length ≤ 1000) : Strs w v l := by
  subst hn
  have hx : ∀ i, (ixS l i).size ≤ 140737488351232 := fun i => by
    unfold ixS
    rw [List.getD_eq_getElem?_getD]
    cases e : l[i]? with
    | none => decide
    | some x =>
      have := hs x (List.mem_of_getElem? e)
      simp only [Option.getD_some]
      omega
  refine ⟨Own1.sl (base := B) (E := 9) ⟨?_, by omega⟩, hx⟩
  have e : (List.range l.length).map (fun i => Value.string (ixS l i)) = l.map Value.string := by
    apply List.ext_getElem (by simp)
    intro i h1 h2
    simp only [List.getElem_map, List.getElem_range]
    rw [ixS_get (by simpa using h2)]
  rw [e]
  exact h
theorem smallC_string {c : PBC} {W : World} {vl vk : Value} {bd : Int} (_hb : c.bound = bd) (h : PBIs W (.agg #[vl, vk, .int .i64 bd]) c) (hs : smallC c = true) {l : List UInt8} (hl2 : strT c = l) :
    Calls Tryz.prog 28 #[.agg #[vl, vk, .int .i64 bd]] W fun e w' => e = .returned (.string ⟨l.toArray⟩) ∧ Below W.heap.size W w' := hl2 ▸ string_small _ c W h hs
theorem texts_two (v : Value) (w : World) (h : PBsIs w v (compL twoP)) :
    Calls Tryz.prog 26 #[v] w fun e w' => ∃ a n c, e = .returned (.slice a n c) ∧ Strs w' (.slice a n c) twoT ∧ Below w.heap.size w w' :=
  (texts_any _ (compL twoP) _ h smallC_all (by rw [two_comp]; decide)).mono fun e w' ⟨vo, h1, h2, h3⟩ => by
    rw [two_text, show (compL twoP).length = 8 by rw [two_comp]; rfl] at h2
    obtain ⟨a, n, c, rfl⟩ := row_form h2
    exact ⟨a, n, c, h1, row_strs h2 rfl twoT_small (by decide), h3⟩
theorem strings_two (v v2 : Value) (w : World) (h : Strs w v twoT) (h2 : Strs w v2 twoT) :
    Calls Tryz.prog 25 #[v, v2] w fun e w' => e = .returned (.bool true) ∧ Below w.heap.size w w' :=
  (strings_any _ _ twoT twoT _ h h2).mono fun e w' ⟨h1, h2⟩ => ⟨h1.trans (by simp), h2⟩
theorem ext_two (v vm : Value) (w : World) (h : ProgIs w v twoP) (hm : Ints w vm [1]) :
    Calls Tryz.prog 12 #[v, vm] w fun e w' => ∃ a n c, e = .returned (.slice a n c) ∧ Bytes8 w' (.slice a n c) [1, -1, 1, -1] ∧ Below w.heap.size w w' :=
  (extend_any _ _ twoP [1] _ h hm).mono fun _ _ ⟨a, c, h1, h2, h3⟩ => ⟨a, _, c, h1, two_ext ▸ h2, h3⟩
theorem bits_two (v v2 : Value) (w : World) (h : Bytes8 w v [1, -1, 1, -1]) (h2 : Bytes8 w v2 [1, -1, 1, -1]) :
    Calls Tryz.prog 27 #[v, v2] w fun e w' => e = .returned (.bool true) ∧ Below w.heap.size w w' :=
  (bits_any _ _ _ _ _ h h2).mono fun e w' ⟨h1, h2⟩ => ⟨h1.trans (by simp), h2⟩
theorem sup_two1 (v vm : Value) (w : World) (h : ProgIs w v twoP) (hm : Ints w vm [1]) :
    Calls Tryz.prog 10 #[v, vm] w fun e w' => e = .returned (.bool true) ∧ Below w.heap.size w w' :=
  (supported_any _ _ twoP [1] _ h hm).mono fun e w' ⟨h1, h2⟩ => ⟨h1.trans (by rw [two_sp1]), h2⟩
theorem sup_two0 (v : Value) (w : World) (h : ProgIs w v twoP) :
    Calls Tryz.prog 10 #[v, .slice none 0 0] w fun e w' => e = .returned (.bool false) ∧ Below w.heap.size w w' :=
  (supported_any _ _ twoP [] _ h (nil_ints _)).mono fun e w' ⟨h1, h2⟩ => ⟨h1.trans (by rw [two_sp0]), h2⟩
theorem strs_two {w : World} : Strs (w.alloc (.cells #[.string ⟨#[49, 32, 126, 120, 50, 32, 49, 32, 126, 120, 51, 32, 62, 61, 32, 49]⟩, .string ⟨#[49, 32, 120, 50, 32, 49, 32, 120, 51, 32, 62, 61, 32, 49]⟩, .string ⟨#[49, 32, 120, 49, 32, 49, 32, 126, 120, 51, 32, 62, 61, 32, 49]⟩, .string ⟨#[49, 32, 126, 120, 49, 32, 49, 32, 126, 120, 52, 32, 62, 61, 32, 49]⟩, .string ⟨#[49, 32, 120, 49, 32, 49, 32, 120, 52, 32, 62, 61, 32, 49]⟩, .string ⟨#[49, 32, 120, 50, 32, 49, 32, 126, 120, 52, 32, 62, 61, 32, 49]⟩, .string ⟨#[49, 32, 126, 120, 49, 32, 49, 32, 120, 51, 32, 62, 61, 32, 49]⟩, .string ⟨#[49, 32, 126, 120, 50, 32, 49, 32, 120, 52, 32, 62, 61, 32, 49]⟩] 9)) (.slice (some ⟨w.heap.size, 0, none⟩) 8 8) twoT := (Blk.new w (twoT.map Value.string) 9).strs twoT_small (by decide)
theorem bytes_two {w : World} : Bytes8 (w.alloc (.cells #[.int .i8 1, .int .i8 (-1), .int .i8 1, .int .i8 (-1)] 60)) (.slice (some ⟨w.heap.size, 0, none⟩) 4 4) [1, -1, 1, -1] :=
  Blk.bytes8 (l := [1, -1, 1, -1]) (Blk.new w [.int .i8 1, .int .i8 (-1), .int .i8 1, .int .i8 (-1)] _) (fit8 (by simp)) (by simp)
theorem ints_one {w : World} : Ints (w.alloc (.cells #[.int .i64 1] 3)) (.slice (some ⟨w.heap.size, 0, none⟩) 1 1) [1] := (Blk.new w [.int .i64 1] _).ints1 (inI_small (by decide))
set_option maxHeartbeats 4000000 in
set_option maxRecDepth 100000 in
theorem awake26_any (w : World) : Calls Tryz.prog 7 #[] w fun e w' => e = .returned (.bool true) ∧ Below w.heap.size w w' := by
  go_enter Tryz.func7, Tryz.ntmps7
  go_upto_region 2 with (go_at_call 23; (with_reducible refine (two_any _).mono ?_); rintro e w1 ⟨v, rfl, ⟨an, nn, cn, ar, nr, cr, rfl⟩, hp, hb1⟩; have hal := bal (Below.refl w1.heap.size w1) (.cells #[.int .i64 2, .slice an nn cn, .slice none 0 0, .slice ar nr cr, .slice none 0 0] 27); have HP1 : Hid (BoxP w1.heap.size 2 (.slice an nn cn) (.slice ar nr cr) twoP (w1.alloc (.cells #[.int .i64 2, .slice an nn cn, .slice none 0 0, .slice ar nr cr, .slice none 0 0] 27))) := Lib.hid ⟨hp.below hal, Blk.new w1 _ _⟩; have HB1 := Lib.hid (bon hb1 hal); clear hp hb1 hal)
  have kx := HP1.out.box.cell
  generalize w1.alloc (.cells #[.int .i64 2, .slice an nn cn, .slice none 0 0, .slice ar nr cr, .slice none 0 0] 27) = W1 at *
  go_upto_region 3 with (go_at_call 9; (with_reducible refine (two_compl _ _ HP1.out.prog).mono ?_); rintro e w2 ⟨ao, co, rfl, ho, hb2⟩; have HL2 := Lib.hid ho; have HP2 := Lib.hid (HP1.out.on hb2); have HB2 := Lib.hid (bon HB1.out hb2); clear ho hb2 kx)
  go_upto_region 4 with fail
  generalize hW : World.alloc _ (.cells #[.int .i64 3, _, .slice none 0 0, _, .slice none 0 0] 27) = W3
  have b1 : Blk W3 (w2.heap.size) ([⟨#[97]⟩, ⟨#[98]⟩, ⟨#[99]⟩].map Value.string) 9 := by rw [← hW]; (repeat first | (refine Blk.newAt _ _ _ ?_; first | rfl | (simp only [World.size_alloc]; done) | (simp only [World.size_alloc]; omega)) | refine Blk.alloc ?_ _)
  have b2 : Blk W3 (w2.heap.size + 1) [.int .i64 3] 3 := by rw [← hW]; (repeat first | (refine Blk.newAt _ _ _ ?_; first | rfl | (simp only [World.size_alloc]; done) | (simp only [World.size_alloc]; omega)) | refine Blk.alloc ?_ _)
  have b3 : Blk W3 (w2.heap.size + 1 + 1) ([1, 2].map (Value.int .i64)) 3 := by rw [← hW]; (repeat first | (refine Blk.newAt _ _ _ ?_; first | rfl | (simp only [World.size_alloc]; done) | (simp only [World.size_alloc]; omega)) | refine Blk.alloc ?_ _)
  have b4 : Blk W3 (w2.heap.size + 1 + 1 + 1) ([1, 2].map (Value.int .i64)) 3 := by rw [← hW]; (repeat first | (refine Blk.newAt _ _ _ ?_; first | rfl | (simp only [World.size_alloc]; done) | (simp only [World.size_alloc]; omega)) | refine Blk.alloc ?_ _)
  have b5 : Blk W3 (w2.heap.size + 1 + 1 + 1 + 1) ([((⟨false, [3], true, 2, [1, 2], [1, 2]⟩ : GR), Value.slice (some ⟨w2.heap.size + 1, 0, none⟩) 1 1, Value.slice (some ⟨w2.heap.size + 1 + 1, 0, none⟩) 2 2, Value.slice (some ⟨w2.heap.size + 1 + 1 + 1, 0, none⟩) 2 2)].flatMap cells6) 55 := by rw [← hW]; (repeat first | (refine Blk.newAt _ _ _ ?_; first | rfl | (simp only [World.size_alloc]; done) | (simp only [World.size_alloc]; omega)) | refine Blk.alloc ?_ _)
  have b6 : Blk W3 (w2.heap.size + 1 + 1 + 1 + 1 + 1) [.int .i64 3, .slice (some ⟨w2.heap.size, 0, none⟩) 3 3, .slice none 0 0, .slice (some ⟨w2.heap.size + 1 + 1 + 1 + 1, 0, none⟩) 1 1, .slice none 0 0] 27 := by rw [← hW]; (repeat first | (refine Blk.newAt _ _ _ ?_; first | rfl | (simp only [World.size_alloc]; done) | (simp only [World.size_alloc]; omega)) | refine Blk.alloc ?_ _)
  have hb3 : Below w2.heap.size w2 W3 := by rw [← hW]; (repeat first | exact Below.refl _ _ | (refine Below.setCell ?_ (by first | omega | (simp; done) | (simp; omega)) _) | (refine bal ?_ _))
  clear hW
  have HQ3 : Hid (BoxP (w2.heap.size + 1 + 1 + 1 + 1 + 1) 3 (.slice (some ⟨w2.heap.size, 0, none⟩) 3 3) (.slice (some ⟨w2.heap.size + 1 + 1 + 1 + 1, 0, none⟩) 1 1) tsumP W3) := Lib.hid ⟨⟨_, _, _, _, rfl, inI_small (by decide), b1.strs (by simp; decide) (by simp), nil_ints _, b5.rules (fun q hq => by
    obtain rfl : q = _ := by simpa using hq
    exact ⟨b2.ints1 (inI_small (by decide)), b3.ints (l := [1, 2]) (fitI (by simp [InI])) (by simp), b4.ints (l := [1, 2]) (fitI (by simp [InI])) (by simp), (by unfold InI; decide : InI 2)⟩) (by simp), nil_mins _⟩, b6⟩
  have kx := HQ3.out.box.cell
  have HL3 := Lib.hid (HL2.out.below hb3)
  have HP3 := Lib.hid (HP2.out.on hb3)
  have HB3 := Lib.hid (bon HB2.out hb3)
  clear b1 b2 b3 b4 b5 b6 hb3 HL2 HP1 HP2 HB1
  go_upto_region 5 with (go_at_call 9; (with_reducible refine (tsum_compl _ _ HQ3.out.prog).mono ?_); rintro e w4 ⟨asu, csu, rfl, ho, hb4⟩; have HS4 := Lib.hid ho; have HL4 := Lib.hid (HL3.out.below hb4); have HP4 := Lib.hid (HP3.out.on hb4); have HB4 := Lib.hid (bon HB3.out hb4); clear ho hb4 kx)
  obtain ⟨bs, os, v0, u0, v1, u1, v2, u2, rfl, hsum⟩ := sum3_of HS4.out
  have HS4 : Hid (A4 w w1.heap.size an nn cn ar nr cr ao co bs os v0 u0 v1 u1 v2 u2 w4) := Lib.hid ⟨HP4.out, HL4.out, hsum, HB4.out⟩
  have kp4 := HP4.out.box.cell
  clear hsum HQ3 HL3 HP3 HP4 HL4 HB4
  go_wp2_with (first
    | (go_at_call 28; (with_reducible refine (smallC_string rfl HS14.out.s.is2 small_t3 st_ct3).mono ?_); rintro e w15 ⟨rfl, hb15⟩; have HS15 := Lib.hid (HS14.out.on hb15); have kp15 := HS15.out.p.box.cell; clear hb15)
    | (go_at_call 28; (with_reducible refine (smallC_string rfl HS13.out.s.is1 small_t2 st_ct2).mono ?_); rintro e w14 ⟨rfl, hb14⟩; have HS14 := Lib.hid (HS13.out.on hb14); have kp14 := HS14.out.p.box.cell; have ka14 := HS14.out.s.at0.1; have kb14 := HS14.out.s.at0.2.1; have kc14 := HS14.out.s.at0.2.2; have kd14 := HS14.out.s.at1.1; have ke14 := HS14.out.s.at1.2.1; have kf14 := HS14.out.s.at1.2.2; have kg14 := HS14.out.s.at2.1; have kh14 := HS14.out.s.at2.2.1; have ki14 := HS14.out.s.at2.2.2; clear hb14)
    | (go_at_call 28; (with_reducible refine (smallC_string rfl HS12.out.s.is0 small_t1 st_ct1).mono ?_); rintro e w13 ⟨rfl, hb13⟩; have HS13 := Lib.hid (HS12.out.on hb13); have kp13 := HS13.out.p.box.cell; have ka13 := HS13.out.s.at0.1; have kb13 := HS13.out.s.at0.2.1; have kc13 := HS13.out.s.at0.2.2; have kd13 := HS13.out.s.at1.1; have ke13 := HS13.out.s.at1.2.1; have kf13 := HS13.out.s.at1.2.2; have kg13 := HS13.out.s.at2.1; have kh13 := HS13.out.s.at2.2.1; have ki13 := HS13.out.s.at2.2.2; clear hb13)
    | (go_at_call 10; (with_reducible refine (sup_two0 _ w11 HS11.out.p.prog).mono ?_); rintro e w12 ⟨rfl, hb12⟩; have HS12 := Lib.hid (HS11.out.on hb12); have kp12 := HS12.out.p.box.cell; have ka12 := HS12.out.s.at0.1; have kb12 := HS12.out.s.at0.2.1; have kc12 := HS12.out.s.at0.2.2; have kd12 := HS12.out.s.at1.1; have ke12 := HS12.out.s.at1.2.1; have kf12 := HS12.out.s.at1.2.2; have kg12 := HS12.out.s.at2.1; have kh12 := HS12.out.s.at2.2.1; have ki12 := HS12.out.s.at2.2.2; clear hb12)
    | (go_at_call 10; (with_reducible refine (sup_two1 _ _ _ (HS10.out.alloc _).p.prog ints_one).mono ?_); rintro e w11 ⟨rfl, hb11⟩; have HS11 := Lib.hid ((HS10.out.alloc _).on hb11); have kp11 := HS11.out.p.box.cell; clear hb11)
    | (go_at_call 27; (with_reducible refine (bits_two _ _ _ (HE.out.below (bal (Below.refl w9.heap.size w9) _)) bytes_two).mono ?_); rintro e w10 ⟨rfl, hb10⟩; have HS10 := Lib.hid ((HS9.out.alloc _).on hb10); have kp10 := HS10.out.p.box.cell; clear hb10)
    | (go_at_call 12; (with_reducible refine (ext_two _ _ _ (HS8.out.alloc _).p.prog ints_one).mono ?_); rintro e w9 ⟨ax, nx, cx, rfl, he, hb9⟩; have HE := Lib.hid he; have HS9 := Lib.hid ((HS8.out.alloc _).on hb9); have kp9 := HS9.out.p.box.cell; clear hb9 he)
    | (go_at_call 25; (with_reducible refine (strings_two _ _ _ (HT.out.below (bal (Below.refl w7.heap.size w7) _)) strs_two).mono ?_); rintro e w8 ⟨rfl, hb8⟩; have HS8 := Lib.hid ((HS7.out.alloc _).on hb8); have kp8 := HS8.out.p.box.cell; clear hb8)
    | (go_at_call 26; (with_reducible refine (texts_two _ w6 HS6.out.l).mono ?_); rintro e w7 ⟨at', nt, ct, rfl, ht, hb7⟩; have HT := Lib.hid ht; have HS7 := Lib.hid (HS6.out.on hb7); have kp7 := HS7.out.p.box.cell; clear hb7 ht)
    | (go_at_call 24; (with_reducible refine (body_any _ twoP w5 HS5.out.p.prog 1 (inI_small (by decide))).mono ?_); rintro e w6 ⟨e6, hb6⟩; rw [two_body] at e6; subst e6; have HS6 := Lib.hid (HS5.out.on hb6); have kp6 := HS6.out.p.box.cell; clear hb6)
    | (go_at_call 17; (with_reducible refine (varsI_any _ twoP w4 HS4.out.p.prog).mono ?_); rintro e w5 ⟨e5, hb5⟩; rw [two_vars] at e5; subst e5; have HS5 := Lib.hid (HS4.out.on hb5); have kp5 := HS5.out.p.box.cell; clear hb5))
  go_ret
  exact ⟨rfl, HS15.out.b⟩
end Go.Proofs.YtjodocheiejkeaaGreatDoor
namespace Go.Proofs.YtjodocheiejkeaaGreatDoor
theorem onB_pos {a : List Int} (h : Total a) {n : Nat} (h1 : 1 ≤ n) (h2 : n ≤ a.length) : onB a (n : Int) = decide (0 < ix a (n - 1)) ∧ onB a (-(n : Int)) = decide (ix a (n - 1) < 0) := by
  have hp := offB_pos a n h1
  have hn := offB_neg a n
  rw [decide_eq_true h2, Bool.true_and] at hp hn
  unfold onB valI
  rw [Int.neg_neg]
  rcases h (n - 1) (by omega) with e | e
  · rw [e] at hp hn ⊢
    rw [hp, hn]
    decide
  · rw [e] at hp hn ⊢
    rw [hp, hn]
    decide
def tOf (a : List Int) (l : Int) : Bool := if l.natAbs ≤ a.length then onB a l else decide (0 < l)
theorem tOf_tot {a : List Int} (h : Total a) : Tot (tOf a) := fun l hl => by
  unfold tOf
  rw [Int.natAbs_neg]
  split
  · rename_i hn
    obtain ⟨n, h1, e⟩ : ∃ n : Nat, 1 ≤ n ∧ (l = n ∨ l = -(n : Int)) := ⟨l.natAbs, by omega, by omega⟩
    have hn' : n ≤ a.length := by omega
    obtain ⟨g1, g2⟩ := onB_pos h h1 hn'
    rcases e with rfl | rfl
    · rw [g1, g2]
      rcases h (n - 1) (by omega) with e | e <;> rw [e] <;> decide
    · rw [Int.neg_neg, g1, g2]
      rcases h (n - 1) (by omega) with e | e <;> rw [e] <;> decide
  · rcases Int.lt_or_gt_of_ne hl with h0 | h0
    · rw [decide_eq_true (show 0 < -l by omega), decide_eq_false (show ¬ 0 < l by omega)]; rfl
    · rw [decide_eq_false (show ¬ 0 < -l by omega), decide_eq_true (show 0 < l by omega)]; rfl
theorem sumW_congr {t u : Int → Bool} : ∀ {l : List (Int × Int)}, (∀ x ∈ l, t x.1 = u x.1) → sumW t l = sumW u l
  | [], _ => rfl
  | x :: l, h => by simp only [sumW, h x (.head _), sumW_congr (l := l) fun y hy => h y (.tail _ hy)]
theorem all_holds {p : GP} {a : List Int} (hv : validE p = 0) (ht : Total a) (hN : p.n + (p.rules.length : Int) = a.length) : (∀ c ∈ compL p, holdsC c a = true) ↔ CompT p (tOf a) := by
  have hC := compV_valid hv
  rw [← hC.sat (tOf_tot ht)]
  have : ∀ c ∈ compL p, holdsC c a = satC (tOf a) c := fun c hc => by
    obtain ⟨h1, h2⟩ := hC.fine c hc
    unfold holdsC satC
    rw [h1, Bool.true_and, sumW_congr (t := onB a) (u := tOf a) fun x hx => ?_]
    have := h2 x.1 (List.of_mem_zip hx).1
    unfold tOf
    rw [if_pos (by omega)]
  exact ⟨fun h c hc => by rw [← this c hc]; exact h c hc, fun h c hc => by rw [this c hc]; exact h c hc⟩
theorem setQ_mem {n : Int} {m : List Int} (h : setQ n m = true) {x : Int} (hx : x ∈ m) : 1 ≤ x ∧ x ≤ n := by
  obtain ⟨j, hj, rfl⟩ := mem_ix.1 hx
  unfold setQ at h
  have := allR_get h j hj
  unfold setTo at this
  simp only [Bool.and_eq_true, decide_eq_true_eq] at this
  exact this.1
theorem sumLK_wsum {t : Int → Bool} {m : List Int} {r : GR} : ∀ k, k ≤ r.body.length → (∀ j, j < k → t (ix r.body j) = litT m (ix r.body j)) → sumLK t r.body r.w k = wsum m r k
  | 0, _, _ => rfl
  | k + 1, hk, h => by simp only [sumLK, wsum, sumLK_wsum k (by omega) fun j hj => h j (by omega), h k (by omega)]
theorem bodyTT_eq {t : Int → Bool} {m : List Int} {r : GR} (h : ∀ j, j < r.body.length → t (ix r.body j) = litT m (ix r.body j)) : bodyTT t r = bodyT r m := by
  unfold bodyTT bodyT
  rw [sumLK_wsum _ (Nat.le_refl _) h, allR_cong h]
def AgreeM (p : GP) (a m : List Int) : Prop := ∀ x : Nat, 1 ≤ x → (x : Int) ≤ p.n → ((x : Int) ∈ m ↔ 0 < ix a (x - 1))
section
variable {p : GP} {a m : List Int}
theorem tOf_lit (ht : Total a) (hN : p.n + (p.rules.length : Int) = a.length) (hm : AgreeM p a m) {x : Int} (h0 : x ≠ 0) (hx : -p.n ≤ x ∧ x ≤ p.n) : tOf a x = litT m x := by
  obtain ⟨n, h1, e⟩ : ∃ n : Nat, 1 ≤ n ∧ (x = n ∨ x = -(n : Int)) := ⟨x.natAbs, by omega, by omega⟩
  obtain ⟨g1, g2⟩ := onB_pos ht h1 (by omega)
  have h2 := hm n h1 (by omega)
  unfold tOf litT
  rw [if_pos (by omega)]
  rcases e with rfl | rfl
  · rw [if_pos (by omega), g1]
    exact decide_eq_decide.2 h2.symm
  · rw [if_neg (by omega), g2, Int.neg_neg]
    rcases ht (n - 1) (by omega) with e | e <;> rw [e] at h2 ⊢
    · rw [decide_eq_true (h2.2 (by decide))]; decide
    · rw [decide_eq_false (fun h => absurd (h2.1 h) (by decide))]; decide
theorem tOf_body (ht : Total a) (hN : p.n + (p.rules.length : Int) = a.length) {i : Nat} (hi : i < p.rules.length) (hn : 0 ≤ p.n) : tOf a (p.n + 1 + i) = decide (0 < ix a (p.n.toNat + i)) := by
  obtain ⟨n, hnn⟩ := Int.eq_ofNat_of_zero_le hn
  have := (onB_pos ht (n := n + 1 + i) (by omega) (by omega)).1
  unfold tOf
  rw [if_pos (by omega), show p.n + 1 + (i : Int) = ((n + 1 + i : Nat) : Int) by omega, this, show n + 1 + i - 1 = p.n.toNat + i by omega]
theorem ext_eq (hv : validE p = 0) (hset : setQ p.n m = true) (ht : Total a) (hN : p.n + (p.rules.length : Int) = a.length) (hm : AgreeM p a m) : a = extA p m ↔ ∀ i, i < p.rules.length → decide (0 < ix a (p.n.toNat + i)) = bodyT (ixR p.rules i) m := by
  have hn := (validP hv).n
  have hl : (extA p m).length = a.length := by
    unfold extA
    rw [if_pos ⟨hv, hset⟩]
    simp
    omega
  have hx : ∀ j, j < a.length → ix (extA p m) j = extAt p m j := fun j hj => by
    unfold extA ix
    rw [if_pos ⟨hv, hset⟩, List.getD_eq_getElem?_getD, List.getElem?_map, List.getElem?_range (by omega)]
    rfl
  have he : a = extA p m ↔ ∀ j, j < a.length → ix a j = extAt p m j := by
    constructor
    · intro e j hj
      rw [← hx j hj, ← e]
    · intro h
      refine eq_of_ix hl.symm fun j hj => ?_
      rw [h j hj, hx j hj]
  rw [he]
  constructor
  · intro h i hi
    rw [h _ (by omega)]
    unfold extAt
    rw [if_neg (by omega), show p.n.toNat + i - p.n.toNat = i by omega]
    cases bodyT (ixR p.rules i) m <;> decide
  · intro h j hj
    unfold extAt
    by_cases hjn : (j : Int) < p.n
    · rw [if_pos hjn]
      have h2 := hm (j + 1) (by omega) (by omega)
      rw [Nat.add_sub_cancel] at h2
      push_cast at h2
      rcases ht j hj with e | e
      · rw [e] at h2
        rw [if_pos (h2.2 (by decide)), e]
      · rw [e] at h2
        rw [if_neg (fun h => absurd (h2.1 h) (by decide)), e]
    · rw [if_neg hjn]
      have h2 := h (j - p.n.toNat) (by omega)
      rw [show p.n.toNat + (j - p.n.toNat) = j by omega] at h2
      rw [← h2]
      rcases ht j hj with e | e <;> rw [e] <;> decide
theorem comp_supported (hv : validE p = 0) (hset : setQ p.n m = true) (ht : Total a) (hN : p.n + (p.rules.length : Int) = a.length) (hm : AgreeM p a m) : CompT p (tOf a) ↔ suppB p m = true ∧ a = extA p m := by
  have hn := (validP hv).n
  have hC := compV_valid hv
  have hb : ∀ i, i < p.rules.length → bodyTT (tOf a) (ixR p.rules i) = bodyT (ixR p.rules i) m := fun i hi => bodyTT_eq fun j hj => by
    have := (hC.rule i hi).body _ (ix_mem hj)
    exact tOf_lit ht hN hm this.1 this.2
  have hh : ∀ i, i < p.rules.length → ∀ x ∈ (ixR p.rules i).head, tOf a x = decide (x ∈ m) := fun i hi x hx => by
    have := (hC.rule i hi).head x hx
    rw [tOf_lit ht hN hm (by omega) (by omega)]
    unfold litT
    rw [if_pos (by omega)]
  rw [ext_eq hv hset ht hN hm]
  constructor
  · rintro ⟨h1, h2, h3⟩
    have h4 : ∀ i, i < p.rules.length → tOf a (p.n + 1 + i) = bodyT (ixR p.rules i) m := fun i hi => (h1 i hi).trans (hb i hi)
    refine ⟨?_, fun i hi => by rw [← tOf_body ht hN hi hn.1]; exact h4 i hi⟩
    unfold suppB
    rw [Bool.and_eq_true]
    refine ⟨allR_true fun i hi => ?_, allR_true fun j hj => ?_⟩
    · unfold satT
      cases hc : (ixR p.rules i).choice with
      | true => rfl
      | false =>
        cases hbb : bodyT (ixR p.rules i) m with
        | false => rfl
        | true =>
          obtain ⟨x, hx, e⟩ := h2 i hi hc (by rw [h4 i hi, hbb])
          obtain ⟨j, hj, rfl⟩ := mem_ix.1 hx
          rw [hh i hi _ hx] at e
          rw [anyR_true j hj e]
          rfl
    · have hmj := setQ_mem hset (ix_mem hj)
      obtain ⟨i, hi, hx, e⟩ := h3 (ix m j) hmj.1 hmj.2 (by
        rw [tOf_lit ht hN hm (by omega) (by omega)]
        unfold litT
        rw [if_pos (by omega)]
        exact decide_eq_true (ix_mem hj))
      refine anyR_true i hi ?_
      rw [← h4 i hi, e, decide_eq_true hx]
      rfl
  · rintro ⟨h1, h2⟩
    have h4 : ∀ i, i < p.rules.length → tOf a (p.n + 1 + i) = bodyT (ixR p.rules i) m := fun i hi => by rw [tOf_body ht hN hi hn.1]; exact h2 i hi
    unfold suppB at h1
    rw [Bool.and_eq_true] at h1
    refine ⟨fun i hi => (h4 i hi).trans (hb i hi).symm, fun i hi hc e => ?_, fun x h5 h6 e => ?_⟩
    · have := allR_get h1.1 i hi
      unfold satT at this
      rw [hc, ← h4 i hi, e] at this
      obtain ⟨j, hj, e2⟩ := anyR_is (by simpa using this)
      exact ⟨_, ix_mem hj, by rw [hh i hi _ (ix_mem hj)]; exact e2⟩
    · rw [tOf_lit ht hN hm (by omega) (by omega)] at e
      unfold litT at e
      rw [if_pos (by omega), decide_eq_true_eq] at e
      obtain ⟨j, hj, rfl⟩ := mem_ix.1 e
      obtain ⟨i, hi, e2⟩ := anyR_is (allR_get h1.2 j hj)
      rw [Bool.and_eq_true, decide_eq_true_eq] at e2
      exact ⟨i, hi, e2.2, by rw [h4 i hi]; exact e2.1⟩
end
end Go.Proofs.YtjodocheiejkeaaGreatDoor
namespace Go.Proofs.YtjodocheiejkeaaGreatDoor
theorem extA_agree {p : GP} {m : List Int} (hv : validE p = 0) (hm : setQ p.n m = true) : AgreeM p (extA p m) m := fun x h1 h2 => by
  have hn := (validP hv).n
  have h3 := off_lit hv hm (l := (x : Int)) (by omega) (by omega)
  have hj : x - 1 < p.n.toNat + p.rules.length := by omega
  rw [ext_ix hv hm hj]
  unfold extAt
  rw [if_pos (by omega)]
  have e : (((x - 1 : Nat) : Int) + 1) = x := by omega
  rw [e]
  by_cases hx : (x : Int) ∈ m
  · simp [hx]
  · simp [hx]
theorem stabD_comp {p : GP} {m : List Int} (hv : validE p = 0) (hm : setQ p.n m = true) (h : StabD p m) : ∀ c ∈ compL p, holdsC c (extA p m) = true := by
  have hn := (validP hv).n
  have ht := extA_total hv hm
  have hN : p.n + (p.rules.length : Int) = (extA p m).length := by rw [ext_len hv hm]; push_cast; omega
  exact (all_holds hv ht hN).2 ((comp_supported hv hm ht hN (extA_agree hv hm)).2 ⟨stabD_sup hv h, rfl⟩)
end Go.Proofs.YtjodocheiejkeaaGreatDoor
namespace Go.Proofs.YtjodocheiejkeaaGreatDoor
open Go.RowKit
theorem allR_of {l : List PBC} {a : List Int} (h : ∀ c ∈ l, holdsC c a = true) : allR l.length (fun j => holdsC (ixC l j) a) = true := by
  refine allR_true fun j hj => h _ ?_
  unfold ixC
  rw [List.getD_eq_getElem?_getD, List.getElem?_eq_getElem hj]
  exact List.getElem_mem hj
def Sb26Rel (p : GP) (w W : World) (vn vs vr vm : Value) (n : Nat) (i : Value) (wx : World) : Prop :=
  ∃ k : Nat, k ≤ n ∧ i = .int .i64 k ∧ LwSt w p vn vs vr vm wx ∧ Below W.heap.size W wx
set_option maxHeartbeats 4000000 in
set_option maxRecDepth 100000 in
theorem sb26_walk (vp : Value) (p : GP) (w : World) (hP : ProgIs w vp p) :
    Calls Tryz.prog 3 #[vp] w fun e w' => e = .returned (.bool true) ∧ Below w.heap.size w w' := by
  have hP0 := hP
  obtain ⟨vn, vs, vr, vm, rfl, hPS⟩ := hP
  have hpn := hPS.n
  unfold InI at hpn
  obtain ⟨ar, cr, rfl, -, hlr, -, -⟩ := hPS.rules.form
  have HS0 := Lib.hid (LwSt.start hP0)
  clear hP0 hPS
  go_enter Tryz.func3, Tryz.ntmps3
  go_upto_region 1 with fail
  have kx0 := HS0.out.box.cell
  generalize w.alloc (.cells #[.int .i64 p.n, vn, vs, .slice ar p.rules.length cr, vm] 27) = W at *
  cases hsm : smallB p with
  | false =>
    have HSM := Lib.hid hsm
    clear hsm
    go_wp2_with (first
      | (go_at_call 6; (with_reducible refine (small_any _ p _ HS0.out.prog).mono ?_); rintro e w1 ⟨h1, hb1⟩; rw [HSM.out] at h1; subst h1; have HS1 := Lib.hid (HS0.out.on hb1); have kx1 := HS1.out.box.cell; clear hb1)
      | (go_at_call 7; (with_reducible refine (awake26_any _).mono ?_); rintro e w9 ⟨rfl, hb9⟩; have HS9 := Lib.hid (HS1.out.on hb9); have kx9 := HS9.out.box.cell; clear hb9))
    go_ret
    exact ⟨rfl, HS9.out.below⟩
  | true =>
    have HSM := Lib.hid hsm
    have hsm2 := hsm
    unfold smallB at hsm2
    simp only [Bool.and_eq_true, decide_eq_true_eq] at hsm2
    obtain ⟨⟨⟨-, h6⟩, h7⟩, hv⟩ := hsm2
    clear hsm
    have HV := Lib.hid hv
    have hn0 := (validP hv).n
    obtain ⟨N, hN⟩ : ∃ N : Nat, p.n = N := ⟨p.n.toNat, by omega⟩
    have HN := Lib.hid hN
    have hN12 : N ≤ 12 := by omega
    have h1000 : p.rules.length ≤ 1000 := by omega
    clear hv hN
    go_upto_region 7 with (first
      | (go_at_call 6; (with_reducible refine (small_any _ p _ HS0.out.prog).mono ?_); rintro e w1 ⟨h1, hb1⟩; rw [HSM.out] at h1; subst h1; have HS1 := Lib.hid (HS0.out.on hb1); have kx1 := HS1.out.box.cell; clear hb1)
      | (go_at_call 8; (with_reducible refine (all_stable _ p N _ HS1.out.prog HV.out HN.out hN12 h1000).mono ?_); rintro e w2 ⟨vL, LL, rfl, ⟨vs9, hsl, hin⟩, hao, hb2⟩; obtain ⟨aL, cL, rfl, -, -, hlL, hcL⟩ := hsl; have HS2 := Lib.hid (HS1.out.on hb2); have kx2 := HS2.out.box.cell; have HCL := Lib.hid hcL; have HIN := Lib.hid hin; have HAO := Lib.hid hao; clear hb2 hcL hin hao)
      | (go_at_call 9; (with_reducible refine (compl_valid HV.out _ w2 HS2.out.prog rfl).mono ?_); rintro e w3 ⟨ao, co, rfl, ho, hb3⟩; have HS3 := Lib.hid (HS2.out.on hb3); have kx3 := HS3.out.box.cell; have HO := Lib.hid ho; have HB3 := Lib.hid hb3; clear hb3 ho))
    clear kx0 kx1 kx2 kx3
    go_wp2
    go_loopw [31] (fun i wx => Sb26Rel p w w3 vn vs (.slice ar p.rules.length cr) vm LL.length i wx) (fun i _ => LL.length - (intOf i).toNat)
    case atStart => exact ⟨0, Nat.zero_le _, rfl, HS3.out, Below.refl _ _⟩
    case round =>
      obtain ⟨t, ht, rfl, hst, hbr⟩ := hrel
      have HSr := Lib.hid hst
      have HBr := Lib.hid hbr
      have kxr := hst.box.cell
      have hzt : w.heap.size < wr.heap.size := hst.box.lt
      clear hst hbr
      by_cases hlt : t < LL.length
      · obtain ⟨bL, oL, rfl, hbL, hc⟩ := HCL.out (by omega)
        have h2r : Below w2.heap.size w2 wr := bon HB3.out HBr.out
        have hmI := (HIN.out t hlt).below h2r
        have hkc := (bcell h2r _ _ hbL).trans (hc t hlt)
        obtain ⟨m, hm⟩ : ∃ m, LL.getD t [] = m := ⟨_, rfl⟩
        have hmm : m ∈ LL := by
          rw [← hm, List.getD_eq_getElem?_getD, List.getElem?_eq_getElem hlt]
          exact List.getElem_mem hlt
        obtain ⟨q, hq, e9, hst⟩ := HAO.out.mem.1 hmm
        have hset : setQ p.n m = true := by
          rw [e9]
          exact setQ_of (subL_sorted _ _) (fun x hx => by have := subL_range _ _ x hx; have := HN.out; omega)
        have hsup := stabD_sup HV.out hst
        have hcmp := allR_of (stabD_comp HV.out hset hst)
        rw [hm] at hmI
        obtain ⟨am, cm, e8, -⟩ := hmI.form
        rw [e8] at hkc hmI
        have HMI := Lib.hid hmI
        have HSC : Hid (∀ W, Below wr.heap.size wr W → Calls Tryz.prog 10 #[.agg #[.int .i64 p.n, vn, vs, .slice ar p.rules.length cr, vm], .slice am m.length cm] W fun e' w' => e' = .returned (.bool true) ∧ Below W.heap.size W w') := Lib.hid fun W hW => (supported_any _ _ p m W (HSr.out.prog.below hW) (HMI.out.below hW)).mono fun e w' ⟨h1, h2⟩ => ⟨by rw [decide_eq_true HV.out, hset, hsup] at h1; exact h1, h2⟩
        have HAC : Hid (∀ W v, Below wr.heap.size wr W → Bytes8 W v (extA p m) → Calls Tryz.prog 11 #[.slice ao (compL p).length co, v] W fun e' w' => e' = .returned (.bool true) ∧ Below W.heap.size W w') := Lib.hid fun W v hW hy => (all26_any _ _ (compL p) (extA p m) W ((HO.out.below HBr.out).below hW) hy).mono fun e w' ⟨h1, h2⟩ => ⟨by rw [hcmp] at h1; exact h1, h2⟩
        clear hmI hc h2r hsup hcmp hset hst hm e8 e9 hmm
        go_wp2_with (first
          | (go_at_call 11; (with_reducible refine (HAC.out w5 _ HB5.out HY5.out).mono ?_); rintro e w6 ⟨rfl, hb6⟩; have HB6 := Lib.hid (bon HB5.out hb6); have HS6 := Lib.hid (HS5.out.on hb6); clear hb6)
          | (go_at_call 12; (with_reducible refine (extend_any _ _ p m w4 HS4.out.prog (HMI.out.below HB4.out)).mono ?_); rintro e w5 ⟨a5, c5, rfl, hy5, hb5⟩; have HS5 := Lib.hid (HS4.out.on hb5); have kx5 := HS5.out.box.cell; have HB5 := Lib.hid (bon HB4.out hb5); have HY5 := Lib.hid hy5; clear hb5 hy5)
          | (go_at_call 10; (with_reducible refine (HSC.out wr (Below.refl _ _)).mono ?_); rintro e w4 ⟨rfl, hb4⟩; have HS4 := Lib.hid (HSr.out.on hb4); have kx4 := HS4.out.box.cell; have HB4 := Lib.hid hb4; clear hb4))
        first
          | (go_roundw
             case rel => (exact ⟨t + 1, hlt, by go_num, HS6.out, bon HBr.out HB6.out⟩)
             case measure => (simp [intOf]; omega))
          | (refine ⟨?_, ?_⟩
             · (exact ⟨t + 1, hlt, by go_num, HS6.out, bon HBr.out HB6.out⟩)
             · (simp [intOf]; omega))
      · clear kxr
        go_wp2_with (go_at_call 7; (with_reducible refine (awake26_any _).mono ?_); rintro e w9 ⟨rfl, hb9⟩; have HS9 := Lib.hid (HSr.out.on hb9); have kx9 := HS9.out.box.cell; clear hb9)
        go_ret
        exact ⟨rfl, HS9.out.below⟩
theorem stable26_law {W : World} {vp : Value} {p : GP} (hP : ProgIs W vp p) :
    Calls Tryz.prog 3 #[vp] W fun e w' => e = .returned (.bool true) ∧ Below W.heap.size W w' := sb26_walk vp p W hP
end Go.Proofs.YtjodocheiejkeaaGreatDoor
