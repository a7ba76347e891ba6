/- My texts Vars, Aw2, Open, Subs, Lw26, Bd26, Mine, AppR, merged. -/
import Derived.Test.YtoahecjdkgeamaaGreatDoorM04
import Derived.Test.YtoahecjdkgeamaaGreatDoorM12
import Derived.Test.YtoahecjdkgeamaaGreatDoorM14
import Derived.Test.YtoahecjdkgeamaaGreatDoorM07
import Derived.Test.YtoahecjdkgeamaaGreatDoorM06
import Derived.Test.YtoahecjdkgeamaaGreatDoorM02
import Derived.Test.YtoahecjdkgeamaaGreatDoorM00
import Derived.ProofKit
import Derived.OpenShut
import Derived.ChangeArms
import Derived.SizedLaws
import Derived.Deep.DeepCutAuto
import Derived.Test.YtoahecjdkgeamaaGreatDoorM13
import Derived.Deep.AppendSrc

/- complete.Vars: its contract. -/
namespace Go.Proofs.YtoahecjdkgeamaaGreatDoor
open Go.RowKit

/-- The number of variables. -/
def varsI (p : GP) : Int := if validE p = 0 then p.n + p.rules.length else 0

theorem varsI_any (v : Value) (p : GP) (w : World) (h : ProgIs w v p) :
    Calls Tryz.prog 14 #[v] w fun e w' => e = .returned (.int .i64 (varsI p)) ∧ Below w.heap.size w w' := by
  have h0 := h
  obtain ⟨vn, vs, vr, vm, rfl, hn, hnames, hshown, hrules, hmin⟩ := h
  have hal := bal (Below.refl w.heap.size w) (.cells #[.int .i64 p.n, vn, vs, vr, vm] 27)
  have HP := Lib.hid (h0.below hal)
  obtain ⟨a1, c1, rfl, -, hl1, -, hcell⟩ := hrules.form
  clear h0 hnames hshown hmin hrules hcell
  by_cases hv : validE p = 0
  · have hV := validP hv
    have hvn := hV.n
    have hvr := hV.rules
    have hve : (validE p != 0) = false := by simp [hv]
    have HF : Hid (varsI p = p.n + p.rules.length) := Lib.hid (if_pos hv)
    clear hv hV
    go_enter Tryz.func14, Tryz.ntmps14
    go_wp2_with (go_at_call 22; refine (valid_any _ p _ HP.out).mono ?_; rintro e w1 ⟨rfl, hb1⟩; have hc1 := bcell hb1; have hz1 : w.heap.size < w1.heap.size := (by have := hb1.size; simp at this; omega))
    go_ret
    exact ⟨ret_int HF.out.symm, bon hal hb1⟩
  · have hve : (validE p != 0) = true := by simp [hv]
    have HF : Hid (varsI p = 0) := Lib.hid (if_neg hv)
    clear hv
    go_enter Tryz.func14, Tryz.ntmps14
    go_wp2_with (go_at_call 22; refine (valid_any _ p _ HP.out).mono ?_; rintro e w1 ⟨rfl, hb1⟩)
    go_ret
    exact ⟨ret_int HF.out.symm, bon hal hb1⟩

end Go.Proofs.YtoahecjdkgeamaaGreatDoor

/- ostlerlaw26.awake returns true. -/
namespace Go.Proofs.YtoahecjdkgeamaaGreatDoor
open Go.RowKit

theorem compl_valid {p : GP} (hv : validE p = 0) (v : Value) (w : World) (h : ProgIs w v p) {n : Nat} (hn : (compL p).length = n) :
    Calls Tryz.prog 12 #[v] w fun e w' => ∃ a c, e = .returned (.tuple #[.slice a n c, .int .i64 0]) ∧ PBsIs w' (.slice a n c) (compL p) ∧ Below w.heap.size w w' :=
  (compl_any v p w h).mono fun e w' ⟨vo, h1, h2, h3⟩ => by
    rw [if_pos hv] at h1 h2
    obtain ⟨a, c, rfl, -⟩ := h2.form
    rw [hn] at h1 h2
    exact ⟨a, c, h1, h2, h3⟩

theorem two_compl (v : Value) (w : World) (h : ProgIs w v twoP) :
    Calls Tryz.prog 12 #[v] w fun e w' => ∃ a c, e = .returned (.tuple #[.slice a 8 c, .int .i64 0]) ∧ PBsIs w' (.slice a 8 c) (compL twoP) ∧ Below w.heap.size w w' := compl_valid two_valid v w h (by rw [two_comp]; rfl)
theorem tsum_compl (v : Value) (w : World) (h : ProgIs w v tsumP) :
    Calls Tryz.prog 12 #[v] w fun e w' => ∃ a c, e = .returned (.tuple #[.slice a 6 c, .int .i64 0]) ∧ PBsIs w' (.slice a 6 c) (compL tsumP) ∧ Below w.heap.size w w' := compl_valid tsum_valid v w h tsum_len

/-- What awake leans on: a program in its box. -/
structure BoxP (b : Nat) (n : Int) (vn vr : Value) (p : GP) (W : World) : Prop where
  prog : ProgIs W (.agg #[.int .i64 n, vn, .slice none 0 0, vr, .slice none 0 0]) p
  box : Blk W b [.int .i64 n, vn, .slice none 0 0, vr, .slice none 0 0] 27

theorem BoxP.on {b : Nat} {n : Int} {vn vr : Value} {p : GP} {W W' : World} (h : BoxP b n vn vr p W) (hb : Below W.heap.size W W') : BoxP b n vn vr p W' := ⟨h.prog.below hb, h.box.below hb⟩

/-- The first three constraints of the second program. -/
structure Sum3 (a : Option Addr) (b o : Nat) (v0 u0 v1 u1 v2 u2 : Value) (W : World) : Prop where
  lt : b < W.heap.size
  at0 : PBCells W b o ct1 v0 u0
  at1 : PBCells W b (o + 3) ct2 v1 u1
  at2 : PBCells W b (o + 6) ct3 v2 u2
  is0 : PBIs W (.agg #[v0, u0, .int .i64 2]) ct1
  is1 : PBIs W (.agg #[v1, u1, .int .i64 2]) ct2
  is2 : PBIs W (.agg #[v2, u2, .int .i64 1]) ct3

theorem Sum3.on {a : Option Addr} {b o : Nat} {v0 u0 v1 u1 v2 u2 : Value} {W W' : World} (h : Sum3 a b o v0 u0 v1 u1 v2 u2 W) (hb : Below W.heap.size W W') : Sum3 a b o v0 u0 v1 u1 v2 u2 W' :=
  ⟨Nat.lt_of_lt_of_le h.lt hb.size, h.at0.below hb h.lt, h.at1.below hb h.lt, h.at2.below hb h.lt, h.is0.below hb, h.is1.below hb, h.is2.below hb⟩

theorem sum3_of {W : World} {a : Option Addr} {c : Nat} (h : PBsIs W (.slice a 6 c) (compL tsumP)) :
    ∃ b o v0 u0 v1 u1 v2 u2, a = some ⟨b, o, none⟩ ∧ Sum3 a b o v0 u0 v1 u1 v2 u2 W := by
  obtain ⟨a2, c2, e, -, -, -, hc⟩ := h.form
  simp only [Value.slice.injEq] at e
  obtain ⟨rfl, -, -⟩ := e
  obtain ⟨b, o, rfl, hb, hcc⟩ := hc (by rw [tsum_len]; omega)
  obtain ⟨v0, u0, h0, s0⟩ := hcc 0 (by rw [tsum_len]; omega)
  obtain ⟨v1, u1, h1, s1⟩ := hcc 1 (by rw [tsum_len]; omega)
  obtain ⟨v2, u2, h2, s2⟩ := hcc 2 (by rw [tsum_len]; omega)
  rw [show ixC (compL tsumP) 0 = ct1 from tsum_0] at h0 s0
  rw [show ixC (compL tsumP) 1 = ct2 from tsum_1] at h1 s1
  rw [show ixC (compL tsumP) 2 = ct3 from tsum_2] at h2 s2
  exact ⟨b, o, v0, u0, v1, u1, v2, u2, rfl, hb, h0, h1, h2, s0.is, s1.is, s2.is⟩

theorem two_vars : varsI twoP = 4 := by kernel_rfl
theorem two_body : bodyI twoP 1 = 4 := by kernel_rfl
theorem twoT_small : ∀ x ∈ twoT, x.size ≤ 1000 := by decide
theorem two_sp1 : (decide (validE twoP = 0) && (setQ twoP.n [1] && suppB twoP [1])) = true := by kernel_rfl
theorem two_sp0 : (decide (validE twoP = 0) && (setQ twoP.n [] && suppB twoP [])) = false := by kernel_rfl

theorem row_strs {B n : Nat} {v : Value} {l : List ByteArray} {w : World} (h : w.ownsRow B 9 1 v n (l.map Value.string)) (hn : n = l.length) (hs : ∀ x ∈ l, x.size ≤ 1000) (hl : l.length ≤ 1000) : Strs w v l := by
  subst hn
  have hx : ∀ i, (ixS l i).size ≤ 140737488351232 := fun i => by
    unfold ixS
    rw [List.getD_eq_getElem?_getD]
    cases e : l[i]? with
    | none => decide
    | some x =>
      have := hs x (List.mem_of_getElem? e)
      simp only [Option.getD_some]
      omega
  refine ⟨Own1.sl (base := B) (E := 9) ⟨?_, by omega⟩, hx⟩
  have e : (List.range l.length).map (fun i => Value.string (ixS l i)) = l.map Value.string := by
    apply List.ext_getElem (by simp)
    intro i h1 h2
    simp only [List.getElem_map, List.getElem_range]
    rw [ixS_get (by simpa using h2)]
  rw [e]
  exact h

theorem smallC_string {c : PBC} {W : World} {vl vk : Value} {bd : Int} (_hb : c.bound = bd) (h : PBIs W (.agg #[vl, vk, .int .i64 bd]) c) (hs : smallC c = true) {l : List UInt8} (hl2 : strT c = l) :
    Calls Tryz.prog 32 #[.agg #[vl, vk, .int .i64 bd]] W fun e w' => e = .returned (.string ⟨l.toArray⟩) ∧ Below W.heap.size W w' := hl2 ▸ string_small _ c W h hs

/-- What the last statement leans on. -/
structure A4 (w : World) (bp : Nat) (an : Option Addr) (nn cn : Nat) (ar : Option Addr) (nr cr : Nat) (ao : Option Addr) (co bs os : Nat) (v0 u0 v1 u1 v2 u2 : Value) (W : World) : Prop where
  p : BoxP bp 2 (.slice an nn cn) (.slice ar nr cr) twoP W
  l : PBsIs W (.slice ao 8 co) (compL twoP)
  s : Sum3 (some ⟨bs, os, none⟩) bs os v0 u0 v1 u1 v2 u2 W
  b : Below w.heap.size w W

theorem A4.on {w : World} {bp : Nat} {an : Option Addr} {nn cn : Nat} {ar : Option Addr} {nr cr : Nat} {ao : Option Addr} {co bs os : Nat} {v0 u0 v1 u1 v2 u2 : Value} {W W' : World} (h : A4 w bp an nn cn ar nr cr ao co bs os v0 u0 v1 u1 v2 u2 W) (hb : Below W.heap.size W W') : A4 w bp an nn cn ar nr cr ao co bs os v0 u0 v1 u1 v2 u2 W' :=
  ⟨h.p.on hb, h.l.below hb, h.s.on hb, bon h.b hb⟩
theorem A4.alloc {w : World} {bp : Nat} {an : Option Addr} {nn cn : Nat} {ar : Option Addr} {nr cr : Nat} {ao : Option Addr} {co bs os : Nat} {v0 u0 v1 u1 v2 u2 : Value} {W : World} (h : A4 w bp an nn cn ar nr cr ao co bs os v0 u0 v1 u1 v2 u2 W) (o : Obj) : A4 w bp an nn cn ar nr cr ao co bs os v0 u0 v1 u1 v2 u2 (W.alloc o) :=
  h.on (bal (Below.refl _ _) _)

theorem texts_two (v : Value) (w : World) (h : PBsIs w v (compL twoP)) :
    Calls Tryz.prog 31 #[v] w fun e w' => ∃ a n c, e = .returned (.slice a n c) ∧ Strs w' (.slice a n c) twoT ∧ Below w.heap.size w w' :=
  (texts_any _ (compL twoP) _ h smallC_all (by rw [two_comp]; decide)).mono fun e w' ⟨vo, h1, h2, h3⟩ => by
    rw [two_text, show (compL twoP).length = 8 by rw [two_comp]; rfl] at h2
    obtain ⟨a, n, c, rfl⟩ := row_form h2
    exact ⟨a, n, c, h1, row_strs h2 rfl twoT_small (by decide), h3⟩
theorem strings_two (v v2 : Value) (w : World) (h : Strs w v twoT) (h2 : Strs w v2 twoT) :
    Calls Tryz.prog 30 #[v, v2] w fun e w' => e = .returned (.bool true) ∧ Below w.heap.size w w' :=
  (strings_any _ _ twoT twoT _ h h2).mono fun e w' ⟨h1, h2⟩ => ⟨h1.trans (by simp), h2⟩
theorem ext_two (v vm : Value) (w : World) (h : ProgIs w v twoP) (hm : Ints w vm [1]) :
    Calls Tryz.prog 18 #[v, vm] w fun e w' => ∃ a n c, e = .returned (.slice a n c) ∧ Bytes8 w' (.slice a n c) [1, -1, 1, -1] ∧ Below w.heap.size w w' :=
  (extend_any _ _ twoP [1] _ h hm).mono fun _ _ ⟨a, c, h1, h2, h3⟩ => ⟨a, _, c, h1, two_ext ▸ h2, h3⟩
theorem bits_two (v v2 : Value) (w : World) (h : Bytes8 w v [1, -1, 1, -1]) (h2 : Bytes8 w v2 [1, -1, 1, -1]) :
    Calls Tryz.prog 17 #[v, v2] w fun e w' => e = .returned (.bool true) ∧ Below w.heap.size w w' :=
  (bits_any _ _ _ _ _ h h2).mono fun e w' ⟨h1, h2⟩ => ⟨h1.trans (by simp), h2⟩
theorem sup_two1 (v vm : Value) (w : World) (h : ProgIs w v twoP) (hm : Ints w vm [1]) :
    Calls Tryz.prog 20 #[v, vm] w fun e w' => e = .returned (.bool true) ∧ Below w.heap.size w w' :=
  (supported_any _ _ twoP [1] _ h hm).mono fun e w' ⟨h1, h2⟩ => ⟨h1.trans (by rw [two_sp1]), h2⟩
theorem sup_two0 (v : Value) (w : World) (h : ProgIs w v twoP) :
    Calls Tryz.prog 20 #[v, .slice none 0 0] w fun e w' => e = .returned (.bool false) ∧ Below w.heap.size w w' :=
  (supported_any _ _ twoP [] _ h (nil_ints _)).mono fun e w' ⟨h1, h2⟩ => ⟨h1.trans (by rw [two_sp0]), h2⟩
theorem strs_two {w : World} : Strs (w.alloc (.cells #[.string ⟨#[49, 32, 126, 120, 50, 32, 49, 32, 126, 120, 51, 32, 62, 61, 32, 49]⟩, .string ⟨#[49, 32, 120, 50, 32, 49, 32, 120, 51, 32, 62, 61, 32, 49]⟩, .string ⟨#[49, 32, 120, 49, 32, 49, 32, 126, 120, 51, 32, 62, 61, 32, 49]⟩, .string ⟨#[49, 32, 126, 120, 49, 32, 49, 32, 126, 120, 52, 32, 62, 61, 32, 49]⟩, .string ⟨#[49, 32, 120, 49, 32, 49, 32, 120, 52, 32, 62, 61, 32, 49]⟩, .string ⟨#[49, 32, 120, 50, 32, 49, 32, 126, 120, 52, 32, 62, 61, 32, 49]⟩, .string ⟨#[49, 32, 126, 120, 49, 32, 49, 32, 120, 51, 32, 62, 61, 32, 49]⟩, .string ⟨#[49, 32, 126, 120, 50, 32, 49, 32, 120, 52, 32, 62, 61, 32, 49]⟩] 9)) (.slice (some ⟨w.heap.size, 0, none⟩) 8 8) twoT := (Blk.new w (twoT.map Value.string) 9).strs twoT_small (by decide)
theorem bytes_two {w : World} : Bytes8 (w.alloc (.cells #[.int .i8 1, .int .i8 (-1), .int .i8 1, .int .i8 (-1)] 49)) (.slice (some ⟨w.heap.size, 0, none⟩) 4 4) [1, -1, 1, -1] :=
  Blk.bytes8 (l := [1, -1, 1, -1]) (Blk.new w [.int .i8 1, .int .i8 (-1), .int .i8 1, .int .i8 (-1)] _) (fit8 (by simp)) (by simp)
theorem ints_one {w : World} : Ints (w.alloc (.cells #[.int .i64 1] 3)) (.slice (some ⟨w.heap.size, 0, none⟩) 1 1) [1] := (Blk.new w [.int .i64 1] _).ints1 (inI_small (by decide))

set_option maxHeartbeats 4000000 in
set_option maxRecDepth 100000 in
theorem awake26_any (w : World) : Calls Tryz.prog 10 #[] w fun e w' => e = .returned (.bool true) ∧ Below w.heap.size w w' := by
  go_enter Tryz.func10, Tryz.ntmps10
  go_upto_region 2 with (go_at_call 29; (with_reducible refine (two_any _).mono ?_); rintro e w1 ⟨v, rfl, ⟨an, nn, cn, ar, nr, cr, rfl⟩, hp, hb1⟩; have hal := bal (Below.refl w1.heap.size w1) (.cells #[.int .i64 2, .slice an nn cn, .slice none 0 0, .slice ar nr cr, .slice none 0 0] 27); have HP1 : Hid (BoxP w1.heap.size 2 (.slice an nn cn) (.slice ar nr cr) twoP (w1.alloc (.cells #[.int .i64 2, .slice an nn cn, .slice none 0 0, .slice ar nr cr, .slice none 0 0] 27))) := Lib.hid ⟨hp.below hal, Blk.new w1 _ _⟩; have HB1 := Lib.hid (bon hb1 hal); clear hp hb1 hal)
  have kx := HP1.out.box.cell
  generalize w1.alloc (.cells #[.int .i64 2, .slice an nn cn, .slice none 0 0, .slice ar nr cr, .slice none 0 0] 27) = W1 at *
  go_upto_region 3 with (go_at_call 12; (with_reducible refine (two_compl _ _ HP1.out.prog).mono ?_); rintro e w2 ⟨ao, co, rfl, ho, hb2⟩; have HL2 := Lib.hid ho; have HP2 := Lib.hid (HP1.out.on hb2); have HB2 := Lib.hid (bon HB1.out hb2); clear ho hb2 kx)
  go_upto_region 4 with fail
  generalize hW : World.alloc _ (.cells #[.int .i64 3, _, .slice none 0 0, _, .slice none 0 0] 27) = W3
  have b1 : Blk W3 (w2.heap.size) ([⟨#[97]⟩, ⟨#[98]⟩, ⟨#[99]⟩].map Value.string) 9 := by rw [← hW]; (repeat first | (refine Blk.newAt _ _ _ ?_; first | rfl | (simp only [World.size_alloc]; done) | (simp only [World.size_alloc]; omega)) | refine Blk.alloc ?_ _)
  have b2 : Blk W3 (w2.heap.size + 1) [.int .i64 3] 3 := by rw [← hW]; (repeat first | (refine Blk.newAt _ _ _ ?_; first | rfl | (simp only [World.size_alloc]; done) | (simp only [World.size_alloc]; omega)) | refine Blk.alloc ?_ _)
  have b3 : Blk W3 (w2.heap.size + 1 + 1) ([1, 2].map (Value.int .i64)) 3 := by rw [← hW]; (repeat first | (refine Blk.newAt _ _ _ ?_; first | rfl | (simp only [World.size_alloc]; done) | (simp only [World.size_alloc]; omega)) | refine Blk.alloc ?_ _)
  have b4 : Blk W3 (w2.heap.size + 1 + 1 + 1) ([1, 2].map (Value.int .i64)) 3 := by rw [← hW]; (repeat first | (refine Blk.newAt _ _ _ ?_; first | rfl | (simp only [World.size_alloc]; done) | (simp only [World.size_alloc]; omega)) | refine Blk.alloc ?_ _)
  have b5 : Blk W3 (w2.heap.size + 1 + 1 + 1 + 1) ([((⟨false, [3], true, 2, [1, 2], [1, 2]⟩ : GR), Value.slice (some ⟨w2.heap.size + 1, 0, none⟩) 1 1, Value.slice (some ⟨w2.heap.size + 1 + 1, 0, none⟩) 2 2, Value.slice (some ⟨w2.heap.size + 1 + 1 + 1, 0, none⟩) 2 2)].flatMap cells6) 51 := by rw [← hW]; (repeat first | (refine Blk.newAt _ _ _ ?_; first | rfl | (simp only [World.size_alloc]; done) | (simp only [World.size_alloc]; omega)) | refine Blk.alloc ?_ _)
  have b6 : Blk W3 (w2.heap.size + 1 + 1 + 1 + 1 + 1) [.int .i64 3, .slice (some ⟨w2.heap.size, 0, none⟩) 3 3, .slice none 0 0, .slice (some ⟨w2.heap.size + 1 + 1 + 1 + 1, 0, none⟩) 1 1, .slice none 0 0] 27 := by rw [← hW]; (repeat first | (refine Blk.newAt _ _ _ ?_; first | rfl | (simp only [World.size_alloc]; done) | (simp only [World.size_alloc]; omega)) | refine Blk.alloc ?_ _)
  have hb3 : Below w2.heap.size w2 W3 := by rw [← hW]; (repeat first | exact Below.refl _ _ | (refine Below.setCell ?_ (by first | omega | (simp; done) | (simp; omega)) _) | (refine bal ?_ _))
  clear hW
  have HQ3 : Hid (BoxP (w2.heap.size + 1 + 1 + 1 + 1 + 1) 3 (.slice (some ⟨w2.heap.size, 0, none⟩) 3 3) (.slice (some ⟨w2.heap.size + 1 + 1 + 1 + 1, 0, none⟩) 1 1) tsumP W3) := Lib.hid ⟨⟨_, _, _, _, rfl, inI_small (by decide), b1.strs (by simp; decide) (by simp), nil_ints _, b5.rules (fun q hq => by
    obtain rfl : q = _ := by simpa using hq
    exact ⟨b2.ints1 (inI_small (by decide)), b3.ints (l := [1, 2]) (fitI (by simp [InI])) (by simp), b4.ints (l := [1, 2]) (fitI (by simp [InI])) (by simp), (by unfold InI; decide : InI 2)⟩) (by simp), nil_mins _⟩, b6⟩
  have kx := HQ3.out.box.cell
  have HL3 := Lib.hid (HL2.out.below hb3)
  have HP3 := Lib.hid (HP2.out.on hb3)
  have HB3 := Lib.hid (bon HB2.out hb3)
  clear b1 b2 b3 b4 b5 b6 hb3 HL2 HP1 HP2 HB1
  go_upto_region 5 with (go_at_call 12; (with_reducible refine (tsum_compl _ _ HQ3.out.prog).mono ?_); rintro e w4 ⟨asu, csu, rfl, ho, hb4⟩; have HS4 := Lib.hid ho; have HL4 := Lib.hid (HL3.out.below hb4); have HP4 := Lib.hid (HP3.out.on hb4); have HB4 := Lib.hid (bon HB3.out hb4); clear ho hb4 kx)
  obtain ⟨bs, os, v0, u0, v1, u1, v2, u2, rfl, hsum⟩ := sum3_of HS4.out
  have HS4 : Hid (A4 w w1.heap.size an nn cn ar nr cr ao co bs os v0 u0 v1 u1 v2 u2 w4) := Lib.hid ⟨HP4.out, HL4.out, hsum, HB4.out⟩
  have kp4 := HP4.out.box.cell
  clear hsum HQ3 HL3 HP3 HP4 HL4 HB4
  go_wp2_with (first
    | (go_at_call 32; (with_reducible refine (smallC_string rfl HS14.out.s.is2 small_t3 st_ct3).mono ?_); rintro e w15 ⟨rfl, hb15⟩; have HS15 := Lib.hid (HS14.out.on hb15); have kp15 := HS15.out.p.box.cell; clear hb15)
    | (go_at_call 32; (with_reducible refine (smallC_string rfl HS13.out.s.is1 small_t2 st_ct2).mono ?_); rintro e w14 ⟨rfl, hb14⟩; have HS14 := Lib.hid (HS13.out.on hb14); have kp14 := HS14.out.p.box.cell; have ka14 := HS14.out.s.at0.1; have kb14 := HS14.out.s.at0.2.1; have kc14 := HS14.out.s.at0.2.2; have kd14 := HS14.out.s.at1.1; have ke14 := HS14.out.s.at1.2.1; have kf14 := HS14.out.s.at1.2.2; have kg14 := HS14.out.s.at2.1; have kh14 := HS14.out.s.at2.2.1; have ki14 := HS14.out.s.at2.2.2; clear hb14)
    | (go_at_call 32; (with_reducible refine (smallC_string rfl HS12.out.s.is0 small_t1 st_ct1).mono ?_); rintro e w13 ⟨rfl, hb13⟩; have HS13 := Lib.hid (HS12.out.on hb13); have kp13 := HS13.out.p.box.cell; have ka13 := HS13.out.s.at0.1; have kb13 := HS13.out.s.at0.2.1; have kc13 := HS13.out.s.at0.2.2; have kd13 := HS13.out.s.at1.1; have ke13 := HS13.out.s.at1.2.1; have kf13 := HS13.out.s.at1.2.2; have kg13 := HS13.out.s.at2.1; have kh13 := HS13.out.s.at2.2.1; have ki13 := HS13.out.s.at2.2.2; clear hb13)
    | (go_at_call 20; (with_reducible refine (sup_two0 _ w11 HS11.out.p.prog).mono ?_); rintro e w12 ⟨rfl, hb12⟩; have HS12 := Lib.hid (HS11.out.on hb12); have kp12 := HS12.out.p.box.cell; have ka12 := HS12.out.s.at0.1; have kb12 := HS12.out.s.at0.2.1; have kc12 := HS12.out.s.at0.2.2; have kd12 := HS12.out.s.at1.1; have ke12 := HS12.out.s.at1.2.1; have kf12 := HS12.out.s.at1.2.2; have kg12 := HS12.out.s.at2.1; have kh12 := HS12.out.s.at2.2.1; have ki12 := HS12.out.s.at2.2.2; clear hb12)
    | (go_at_call 20; (with_reducible refine (sup_two1 _ _ _ (HS10.out.alloc _).p.prog ints_one).mono ?_); rintro e w11 ⟨rfl, hb11⟩; have HS11 := Lib.hid ((HS10.out.alloc _).on hb11); have kp11 := HS11.out.p.box.cell; clear hb11)
    | (go_at_call 17; (with_reducible refine (bits_two _ _ _ (HE.out.below (bal (Below.refl w9.heap.size w9) _)) bytes_two).mono ?_); rintro e w10 ⟨rfl, hb10⟩; have HS10 := Lib.hid ((HS9.out.alloc _).on hb10); have kp10 := HS10.out.p.box.cell; clear hb10)
    | (go_at_call 18; (with_reducible refine (ext_two _ _ _ (HS8.out.alloc _).p.prog ints_one).mono ?_); rintro e w9 ⟨ax, nx, cx, rfl, he, hb9⟩; have HE := Lib.hid he; have HS9 := Lib.hid ((HS8.out.alloc _).on hb9); have kp9 := HS9.out.p.box.cell; clear hb9 he)
    | (go_at_call 30; (with_reducible refine (strings_two _ _ _ (HT.out.below (bal (Below.refl w7.heap.size w7) _)) strs_two).mono ?_); rintro e w8 ⟨rfl, hb8⟩; have HS8 := Lib.hid ((HS7.out.alloc _).on hb8); have kp8 := HS8.out.p.box.cell; clear hb8)
    | (go_at_call 31; (with_reducible refine (texts_two _ w6 HS6.out.l).mono ?_); rintro e w7 ⟨at', nt, ct, rfl, ht, hb7⟩; have HT := Lib.hid ht; have HS7 := Lib.hid (HS6.out.on hb7); have kp7 := HS7.out.p.box.cell; clear hb7 ht)
    | (go_at_call 15; (with_reducible refine (body_any _ twoP w5 HS5.out.p.prog 1 (inI_small (by decide))).mono ?_); rintro e w6 ⟨e6, hb6⟩; rw [two_body] at e6; subst e6; have HS6 := Lib.hid (HS5.out.on hb6); have kp6 := HS6.out.p.box.cell; clear hb6)
    | (go_at_call 14; (with_reducible refine (varsI_any _ twoP w4 HS4.out.p.prog).mono ?_); rintro e w5 ⟨e5, hb5⟩; rw [two_vars] at e5; subst e5; have HS5 := Lib.hid (HS4.out.on hb5); have kp5 := HS5.out.p.box.cell; clear hb5))
  go_ret
  exact ⟨rfl, HS15.out.b⟩

end Go.Proofs.YtoahecjdkgeamaaGreatDoor

/- How the arguments of the statements read: from the claim's form to this folder's predicates. -/
namespace Go.Proofs.YtoahecjdkgeamaaGreatDoor
open Go.RowKit

theorem list_of {α : Type} (d : α) {Q : Nat → α → Prop} : ∀ (n : Nat), (∀ i, i < n → ∃ x, Q i x) → ∃ l : List α, l.length = n ∧ ∀ i, i < n → Q i (l.getD i d)
  | 0, _ => ⟨[], rfl, fun i hi => absurd hi (Nat.not_lt_zero _)⟩
  | n + 1, h => by
    obtain ⟨l, hl, hq⟩ := list_of d n (fun i hi => h i (by omega))
    obtain ⟨x, hx⟩ := h n (by omega)
    refine ⟨l ++ [x], by simp [hl], fun i hi => ?_⟩
    by_cases e : i < n
    · have := hq i e
      rw [List.getD_eq_getElem?_getD, List.getElem?_append_left (by omega), ← List.getD_eq_getElem?_getD]
      exact this
    · obtain rfl : i = n := by omega
      rw [List.getD_eq_getElem?_getD, List.getElem?_append_right (by omega)]
      simp [hl, hx]

section
variable {H : Type} {enc : TypeId × Value → H} {P : Program} {w : World}

/-- The cells of one value in memory read as a datum whose parts are within the reach. -/
def Reads (enc : TypeId × Value → H) (P : Program) (w : World) (t : TypeId) (cs : List Value) : Prop :=
  ∃ fuel y, DataW.trod enc P w 0 (fun _ => true) true fuel t cs = some y ∧ ∀ m ∈ y.1.weights P t, m ≤ reachBytes

theorem cells_at {a : Addr} {n : Nat} {cs : List Value} (h : w.cells? 0 a n = some cs) : cs.length = n ∧ ∀ j, j < n → w.cell? (a.add j) = cs[j]? := by
  unfold World.cells? at h
  rw [if_pos (Nat.zero_le _)] at h
  refine ⟨by simpa using mapM_some_length h, fun j hj => ?_⟩
  exact mapM_some_get h j j (by simp [hj])

theorem weightsAll_mem {e : TypeId} : ∀ {l : List (DataW H)} {i : Nat} {d : DataW H}, l[i]? = some d → ∀ m ∈ d.weights P e, m ∈ DataW.weightsAll P e l
  | [], i, d, h, m, hm => by simp at h
  | x :: l, 0, d, h, m, hm => by
    simp only [List.getElem?_cons_zero, Option.some.injEq] at h
    subst h
    unfold DataW.weightsAll
    exact List.mem_append.2 (.inl hm)
  | x :: l, i + 1, d, h, m, hm => by
    simp only [List.getElem?_cons_succ] at h
    unfold DataW.weightsAll
    exact List.mem_append.2 (.inr (weightsAll_mem h m hm))

theorem open_slc {t e : TypeId} {sz byt : Nat} {cs : List Value} (ht : P.underlying t = some (.slice e)) (hc : P.cellsOf e = sz) (hs : 1 ≤ sz) (hb : P.bytesOf e = byt) (h : Reads enc P w t cs) :
    ∃ a n cap, cs = [.slice a n cap] ∧ n ≤ cap ∧ cap ≤ maxLen ∧ n * byt ≤ 140737488351232 ∧
      (0 < n → ∃ b off, a = some ⟨b, off, none⟩ ∧ b < w.heap.size ∧ ∀ i, i < n → ∃ cs', cs'.length = sz ∧ (∀ j, j < sz → w.cell? ⟨b, off + i * sz + j, none⟩ = cs'[j]?) ∧ Reads enc P w e cs') := by
  obtain ⟨fuel, y, hy, hw⟩ := h
  rcases DataW.trod_slice ht hy with ⟨rfl, rfl⟩ | ⟨a, len, cap, elems, rest, n, rfl, rfl, rfl, -, hl, hm, hlen, hel, -, -⟩
  · exact ⟨none, 0, 0, rfl, Nat.le_refl _, by unfold maxLen; omega, by omega, fun h => absurd h (Nat.lt_irrefl _)⟩
  · have hws : ∀ m, m ∈ DataW.weights P t (.slice (elems.map (·.1)) (rest.map (·.1))) ↔ m = ((elems.map (·.1)).length + (rest.map (·.1)).length) * P.bytesOf e ∨ m ∈ DataW.weightsAll P e (elems.map (·.1)) ∨ m ∈ DataW.weightsAll P e (rest.map (·.1)) := by
      intro m; simp only [DataW.weights, ht, List.mem_cons, List.mem_append]
    have hbig := hw _ ((hws _).2 (.inl rfl))
    simp only [List.length_map, hlen, hb] at hbig
    have hreach : reachBytes = 140737488351232 := by decide
    refine ⟨some a, len, cap, rfl, hl, hm, ?_, fun hp => ?_⟩
    · have : len * byt ≤ (len + rest.length) * byt := Nat.mul_le_mul_right _ (by omega)
      omega
    · obtain ⟨b, off, spot⟩ := a
      have each : ∀ i, i < len → ∃ cs' y, w.cells? 0 ((⟨b, off, spot⟩ : Addr).add (i * P.cellsOf e)) (P.cellsOf e) = some cs' ∧ DataW.trod enc P w 0 (fun _ => true) true n e cs' = some y ∧ elems[i]? = some y := fun i hi => by
        have h1 := hel i hi
        rw [List.getElem?_eq_getElem (by omega)] at h1
        obtain ⟨cs', h2, h3⟩ := Option.bind_eq_some_iff.1 h1
        exact ⟨cs', _, h2, h3, List.getElem?_eq_getElem (by omega)⟩
      have hspot : spot = none := by
        obtain ⟨cs', y, h1, -, -⟩ := each 0 hp
        rw [Nat.zero_mul, hc] at h1
        obtain ⟨h2, h3⟩ := cells_at h1
        have h4 := h3 0 (by omega)
        rw [List.getElem?_eq_getElem (by omega)] at h4
        simpa [Addr.add] using World.cell?_spot h4
      subst hspot
      have add : ∀ (x : Nat) (o : Nat), ((⟨b, x, none⟩ : Addr).add o) = ⟨b, x + o, none⟩ := fun x o => by unfold Addr.add; split <;> simp_all
      refine ⟨b, off, rfl, ?_, fun i hi => ?_⟩
      · obtain ⟨cs', y, h1, -, -⟩ := each 0 hp
        rw [Nat.zero_mul, hc] at h1
        obtain ⟨h2, h3⟩ := cells_at h1
        have h4 := h3 0 (by omega)
        rw [List.getElem?_eq_getElem (by omega)] at h4
        refine Classical.byContradiction fun hn => ?_
        have : w.heap[b]? = none := Array.getElem?_eq_none (by omega)
        simp [World.cell?, Addr.add, this] at h4
      · obtain ⟨cs', y, h1, h2, h3⟩ := each i hi
        rw [hc] at h1
        obtain ⟨h4, h5⟩ := cells_at h1
        refine ⟨cs', h4, fun j hj => ?_, n, y, h2, fun m hm => hw m ((hws m).2 (.inr (.inl ?_)))⟩
        · have := h5 j hj
          rw [add, add] at this
          exact this
        · exact weightsAll_mem (i := i) (by simp [h3]) m hm

theorem open_int1 {t : TypeId} {k : IntKind} {cs : List Value} (ht : P.underlying t = some (.int k)) (h : Reads enc P w t cs) : ∃ n, cs = [.int k n] ∧ (Lit.int k n).wf = true := by
  obtain ⟨fuel, y, hy, -⟩ := h
  obtain ⟨n, h1, -, h2⟩ := DataW.trod_int ht hy
  exact ⟨n, h1, h2⟩

theorem open_bool1 {t : TypeId} {cs : List Value} (ht : P.underlying t = some .bool) (h : Reads enc P w t cs) : ∃ b, cs = [.bool b] := by
  obtain ⟨fuel, y, hy, -⟩ := h
  obtain ⟨n, h1, -⟩ := DataW.trod_bool ht hy
  exact ⟨n, h1⟩

theorem open_str1 {t : TypeId} {cs : List Value} (ht : P.underlying t = some .string) (h : Reads enc P w t cs) : ∃ s, cs = [.string s] ∧ s.size ≤ 140737488351232 := by
  obtain ⟨fuel, y, hy, hw⟩ := h
  obtain ⟨s, h1, h2, -⟩ := DataW.trod_string ht hy
  subst h2
  refine ⟨s, h1, ?_⟩
  have := hw s.data.toList.length (by simp [DataW.weights])
  have hreach : reachBytes = 140737488351232 := by decide
  rw [hreach] at this
  simpa using this

/-- A field of a struct. -/
theorem open_fld {t : TypeId} {fs : Array Field} {cs : List Value} (ht : P.underlying t = some (.struct fs)) (h : Reads enc P w t cs) {i : Nat} {f : Field} (hf : fs[i]? = some f) : cs.length = P.cellsOf t ∧ Reads enc P w f.type ((cs.drop f.offset).take (P.cellsOf f.type)) := by
  obtain ⟨fuel, y, hy, hw⟩ := h
  obtain ⟨xs, n, rfl, rfl, hl, hx, hel⟩ := DataW.trod_struct ht hy
  refine ⟨hl, n, ?_⟩
  have h1 := hel i f hf
  have hi : i < fs.size := (Array.getElem?_eq_some_iff.1 hf).1
  rw [List.getElem?_eq_getElem (by omega)] at h1
  refine ⟨_, h1, fun m hm => hw m ?_⟩
  simp only [DataW.weights, ht]
  exact DataW.weights_mem_each (j := i) (t := f.type) (d := (xs[i]'(by omega)).1) (by simp [hf]) (by simp [List.getElem?_eq_getElem (show i < xs.length by omega)]) m hm
end

theorem open_at {H : Type} {enc : TypeId × Value → H} {P : Program} {w : World} {t : TypeId} {fs : Array Field} {cs : List Value} (ht : P.underlying t = some (.struct fs)) (h : Reads enc P w t cs) (i ty off n : Nat)
    (hf : (fs[i]?).map (fun f => (f.type, f.offset)) = some (ty, off)) (hn : P.cellsOf ty = n) : Reads enc P w ty ((cs.drop off).take n) := by
  obtain ⟨f, h1, h2⟩ := Option.map_eq_some_iff.1 hf
  simp only [Prod.mk.injEq] at h2
  obtain ⟨rfl, rfl⟩ := h2
  subst hn
  exact (open_fld ht h h1).2

theorem open_len {H : Type} {enc : TypeId × Value → H} {P : Program} {w : World} {t : TypeId} {fs : Array Field} {cs : List Value} (ht : P.underlying t = some (.struct fs)) (h : Reads enc P w t cs) : cs.length = P.cellsOf t := by
  obtain ⟨fuel, y, hy, hw⟩ := h
  obtain ⟨xs, n, rfl, rfl, hl, hx, hel⟩ := DataW.trod_struct ht hy
  exact hl

section
variable {H : Type} {enc : TypeId × Value → H} {w : World}

theorem wf_i64 {n : Int} (h : (Lit.int .i64 n).wf = true) : -9223372036854775808 ≤ n ∧ n ≤ 9223372036854775807 := by
  have := bounds_i64 h; omega
theorem open_Ints {cs : List Value} (h : Reads enc Tryz.prog w 23 cs) : ∃ v l, cs = [v] ∧ Ints w v l := by
  obtain ⟨a, n, cap, rfl, h1, h2, h3, h4⟩ := open_slc (sz := 1) (byt := 8) Tryz.underlying23 (by kernel_rfl) (Nat.le_refl _) (by kernel_rfl) h
  by_cases hp : 0 < n
  · obtain ⟨b, off, rfl, hb, hel⟩ := h4 hp
    obtain ⟨l, hl, hq⟩ := list_of (0 : Int) (Q := fun i z => w.cell? ⟨b, off + i, none⟩ = some (.int .i64 z) ∧ InI z) n (fun i hi => by
      obtain ⟨cs', h5, h6, h7⟩ := hel i hi
      obtain ⟨z, rfl, hz⟩ := open_int1 Tryz.underlying3 h7
      have := h6 0 (by omega)
      simp only [Nat.mul_one, Nat.add_zero, List.getElem?_cons_zero] at this
      exact ⟨z, this, wf_i64 hz⟩)
    refine ⟨_, l, rfl, ⟨_, cap, by rw [hl], by omega, h2, by omega, fun _ => ⟨b, off, rfl, hb, fun i hi => (hq i (by omega)).1⟩⟩, fun i => ?_⟩
    by_cases hi : i < n
    · exact (hq i hi).2
    · have : ix l i = 0 := by unfold ix; rw [List.getD_eq_getElem?_getD, List.getElem?_eq_none (by omega)]; rfl
      rw [this]; omega
  · obtain rfl : n = 0 := by omega
    exact ⟨_, [], rfl, ⟨a, cap, rfl, h1, h2, by simp, fun h => absurd h (by simp)⟩, fun i => by simp [ix]⟩

theorem open_Strs {cs : List Value} (h : Reads enc Tryz.prog w 22 cs) : ∃ v l, cs = [v] ∧ Strs w v l := by
  obtain ⟨a, n, cap, rfl, h1, h2, h3, h4⟩ := open_slc (sz := 1) (byt := 16) Tryz.underlying22 (by kernel_rfl) (Nat.le_refl _) (by kernel_rfl) h
  have hempty : (ixS [] 0).size ≤ 140737488351232 := by decide
  by_cases hp : 0 < n
  · obtain ⟨b, off, rfl, hb, hel⟩ := h4 hp
    obtain ⟨l, hl, hq⟩ := list_of (⟨#[]⟩ : ByteArray) (Q := fun i z => w.cell? ⟨b, off + i, none⟩ = some (.string z) ∧ z.size ≤ 140737488351232) n (fun i hi => by
      obtain ⟨cs', h5, h6, h7⟩ := hel i hi
      obtain ⟨z, rfl, hz⟩ := open_str1 Tryz.underlying9 h7
      have := h6 0 (by omega)
      simp only [Nat.mul_one, Nat.add_zero, List.getElem?_cons_zero] at this
      exact ⟨z, this, hz⟩)
    refine ⟨_, l, rfl, ⟨_, cap, by rw [hl], by omega, h2, by omega, fun _ => ⟨b, off, rfl, hb, fun i hi => (hq i (by omega)).1⟩⟩, fun i => ?_⟩
    by_cases hi : i < n
    · exact (hq i hi).2
    · have : ixS l i = ⟨#[]⟩ := by unfold ixS; rw [List.getD_eq_getElem?_getD, List.getElem?_eq_none (by omega)]; rfl
      rw [this]; exact hempty
  · obtain rfl : n = 0 := by omega
    exact ⟨_, [], rfl, ⟨a, cap, rfl, h1, h2, by simp, fun h => absurd h (by simp)⟩, fun i => by simpa [ixS] using hempty⟩

theorem six {cs : List Value} (h : cs.length = 6) : ∃ a b c d e f, cs = [a, b, c, d, e, f] := by
  match cs, h with
  | [a, b, c, d, e, f], _ => exact ⟨a, b, c, d, e, f, rfl⟩
theorem five {cs : List Value} (h : cs.length = 5) : ∃ a b c d e, cs = [a, b, c, d, e] := by
  match cs, h with
  | [a, b, c, d, e], _ => exact ⟨a, b, c, d, e, rfl⟩
theorem three {cs : List Value} (h : cs.length = 3) : ∃ a b c, cs = [a, b, c] := by
  match cs, h with
  | [a, b, c], _ => exact ⟨a, b, c, rfl⟩

theorem cellsRule : Tryz.prog.cellsOf 51 = 6 := by kernel_rfl
theorem cellsMin : Tryz.prog.cellsOf 67 = 3 := by kernel_rfl
theorem cellsProg : Tryz.prog.cellsOf 27 = 5 := by kernel_rfl
theorem cellsI : Tryz.prog.cellsOf 3 = 1 := by kernel_rfl
theorem cellsB : Tryz.prog.cellsOf 4 = 1 := by kernel_rfl
theorem cellsIs : Tryz.prog.cellsOf 23 = 1 := by kernel_rfl
theorem cellsSs : Tryz.prog.cellsOf 22 = 1 := by kernel_rfl
theorem cellsRs : Tryz.prog.cellsOf 24 = 1 := by kernel_rfl
theorem cellsMs : Tryz.prog.cellsOf 25 = 1 := by kernel_rfl
theorem open_Rule {cs : List Value} (h : Reads enc Tryz.prog w 51 cs) : ∃ (r : GR) (vh vb vw : Value), cs = [.bool r.choice, vh, .bool r.sum, .int .i64 r.bound, vb, vw] ∧ RuleSl w r vh vb vw := by
  have hl := open_len Tryz.underlying51 h
  have f0 := open_at Tryz.underlying51 h 0 4 0 1 rfl cellsB
  have f1 := open_at Tryz.underlying51 h 1 23 1 1 rfl cellsIs
  have f2 := open_at Tryz.underlying51 h 2 4 2 1 rfl cellsB
  have f3 := open_at Tryz.underlying51 h 3 3 3 1 rfl cellsI
  have f4 := open_at Tryz.underlying51 h 4 23 4 1 rfl cellsIs
  have f5 := open_at Tryz.underlying51 h 5 23 5 1 rfl cellsIs
  rw [cellsRule] at hl
  obtain ⟨c0, c1, c2, c3, c4, c5, rfl⟩ := six hl
  simp only [List.drop_succ_cons, List.drop_zero, List.take_succ_cons, List.take_zero] at f0 f1 f2 f3 f4 f5
  obtain ⟨b0, h0⟩ := open_bool1 Tryz.underlying4 f0
  obtain ⟨v1, l1, h1, g1⟩ := open_Ints f1
  obtain ⟨b2, h2⟩ := open_bool1 Tryz.underlying4 f2
  obtain ⟨n3, h3, g3⟩ := open_int1 Tryz.underlying3 f3
  obtain ⟨v4, l4, h4, g4⟩ := open_Ints f4
  obtain ⟨v5, l5, h5, g5⟩ := open_Ints f5
  simp only [List.cons.injEq, and_true] at h0 h1 h2 h3 h4 h5
  subst h0 h1 h2 h3 h4 h5
  exact ⟨⟨b0, l1, b2, n3, l4, l5⟩, _, _, _, rfl, g1, g4, g5, wf_i64 g3⟩

theorem open_Min {cs : List Value} (h : Reads enc Tryz.prog w 67 cs) : ∃ (m : GM) (vl vw : Value), cs = [.int .i64 m.level, vl, vw] ∧ MinSl w m vl vw := by
  have hl := open_len Tryz.underlying67 h
  have f0 := open_at Tryz.underlying67 h 0 3 0 1 rfl cellsI
  have f1 := open_at Tryz.underlying67 h 1 23 1 1 rfl cellsIs
  have f2 := open_at Tryz.underlying67 h 2 23 2 1 rfl cellsIs
  rw [cellsMin] at hl
  obtain ⟨c0, c1, c2, rfl⟩ := three hl
  simp only [List.drop_succ_cons, List.drop_zero, List.take_succ_cons, List.take_zero] at f0 f1 f2
  obtain ⟨n0, h0, g0⟩ := open_int1 Tryz.underlying3 f0
  obtain ⟨v1, l1, h1, g1⟩ := open_Ints f1
  obtain ⟨v2, l2, h2, g2⟩ := open_Ints f2
  simp only [List.cons.injEq, and_true] at h0 h1 h2
  subst h0 h1 h2
  exact ⟨⟨n0, l1, l2⟩, _, _, rfl, g1, g2, wf_i64 g0⟩

theorem open_Rules {cs : List Value} (h : Reads enc Tryz.prog w 24 cs) : ∃ v l, cs = [v] ∧ RulesIs w v l := by
  obtain ⟨a, n, cap, rfl, h1, h2, h3, h4⟩ := open_slc (sz := 6) (byt := 96) Tryz.underlying24 cellsRule (by omega) (by kernel_rfl) h
  by_cases hp : 0 < n
  · obtain ⟨b, off, rfl, hb, hel⟩ := h4 hp
    obtain ⟨l, hl, hq⟩ := list_of ((default : GR), nilS, nilS, nilS) (Q := fun i (q : GR × Value × Value × Value) => (∀ j, j < 6 → w.cell? ⟨b, off + i * 6 + j, none⟩ = some (ruleCell q.1 q.2.1 q.2.2.1 q.2.2.2 j)) ∧ RuleSl w q.1 q.2.1 q.2.2.1 q.2.2.2) n (fun i hi => by
      obtain ⟨cs', h5, h6, h7⟩ := hel i hi
      obtain ⟨r, vh, vb, vw, rfl, hr⟩ := open_Rule h7
      refine ⟨(r, vh, vb, vw), fun j hj => ?_, hr⟩
      rw [h6 j hj]
      rcases (show j = 0 ∨ j = 1 ∨ j = 2 ∨ j = 3 ∨ j = 4 ∨ j = 5 by omega) with rfl | rfl | rfl | rfl | rfl | rfl <;> rfl)
    have hix : ∀ i, i < n → ixR (l.map (·.1)) i = (l.getD i (default, nilS, nilS, nilS)).1 := fun i hi => by
      simp [ixR, List.getD_eq_getElem?_getD, List.getElem?_eq_getElem (show i < l.length by omega)]
    refine ⟨_, l.map (·.1), rfl, fun i => (l.getD i (default, nilS, nilS, nilS)).2.1, fun i => (l.getD i (default, nilS, nilS, nilS)).2.2.1, fun i => (l.getD i (default, nilS, nilS, nilS)).2.2.2,
      ⟨_, cap, by rw [List.length_map, hl], by simp [hl]; omega, h2, by simp [hl]; omega, fun _ => ⟨b, off, rfl, hb, fun i hi j hj => ?_⟩⟩, fun i hi => ?_⟩
    · simp only [List.length_map, hl] at hi
      dsimp only
      rw [hix i hi]
      exact (hq i hi).1 j hj
    · simp only [List.length_map, hl] at hi
      rw [hix i hi]
      exact (hq i hi).2
  · obtain rfl : n = 0 := by omega
    exact ⟨_, [], rfl, fun _ => nilS, fun _ => nilS, fun _ => nilS, ⟨a, cap, rfl, h1, h2, by simp, fun h => absurd h (by simp)⟩, fun i hi => absurd hi (by simp)⟩

theorem open_Mins {cs : List Value} (h : Reads enc Tryz.prog w 25 cs) : ∃ v l, cs = [v] ∧ MinsIs w v l := by
  obtain ⟨a, n, cap, rfl, h1, h2, h3, h4⟩ := open_slc (sz := 3) (byt := 56) Tryz.underlying25 cellsMin (by omega) (by kernel_rfl) h
  by_cases hp : 0 < n
  · obtain ⟨b, off, rfl, hb, hel⟩ := h4 hp
    obtain ⟨l, hl, hq⟩ := list_of ((default : GM), nilS, nilS) (Q := fun i (q : GM × Value × Value) => (∀ j, j < 3 → w.cell? ⟨b, off + i * 3 + j, none⟩ = some (minCell q.1 q.2.1 q.2.2 j)) ∧ MinSl w q.1 q.2.1 q.2.2) n (fun i hi => by
      obtain ⟨cs', h5, h6, h7⟩ := hel i hi
      obtain ⟨r, vl, vw, rfl, hr⟩ := open_Min h7
      refine ⟨(r, vl, vw), fun j hj => ?_, hr⟩
      rw [h6 j hj]
      rcases (show j = 0 ∨ j = 1 ∨ j = 2 by omega) with rfl | rfl | rfl <;> rfl)
    have hix : ∀ i, i < n → ixM (l.map (·.1)) i = (l.getD i (default, nilS, nilS)).1 := fun i hi => by
      simp [ixM, List.getD_eq_getElem?_getD, List.getElem?_eq_getElem (show i < l.length by omega)]
    refine ⟨_, l.map (·.1), rfl, fun i => (l.getD i (default, nilS, nilS)).2.1, fun i => (l.getD i (default, nilS, nilS)).2.2,
      ⟨_, cap, by rw [List.length_map, hl], by simp [hl]; omega, h2, by simp [hl]; omega, fun _ => ⟨b, off, rfl, hb, fun i hi j hj => ?_⟩⟩, fun i hi => ?_⟩
    · simp only [List.length_map, hl] at hi
      dsimp only
      rw [hix i hi]
      exact (hq i hi).1 j hj
    · simp only [List.length_map, hl] at hi
      rw [hix i hi]
      exact (hq i hi).2
  · obtain rfl : n = 0 := by omega
    exact ⟨_, [], rfl, fun _ => nilS, fun _ => nilS, ⟨a, cap, rfl, h1, h2, by simp, fun h => absurd h (by simp)⟩, fun i hi => absurd hi (by simp)⟩

theorem open_Prog {cs : List Value} (h : Reads enc Tryz.prog w 27 cs) : ∃ (p : GP) (vn vs vr vm : Value), cs = [.int .i64 p.n, vn, vs, vr, vm] ∧ ProgSl w p vn vs vr vm := by
  have hl := open_len Tryz.underlying27 h
  have f0 := open_at Tryz.underlying27 h 0 3 0 1 rfl cellsI
  have f1 := open_at Tryz.underlying27 h 1 22 1 1 rfl cellsSs
  have f2 := open_at Tryz.underlying27 h 2 23 2 1 rfl cellsIs
  have f3 := open_at Tryz.underlying27 h 3 24 3 1 rfl cellsRs
  have f4 := open_at Tryz.underlying27 h 4 25 4 1 rfl cellsMs
  rw [cellsProg] at hl
  obtain ⟨c0, c1, c2, c3, c4, rfl⟩ := five hl
  simp only [List.drop_succ_cons, List.drop_zero, List.take_succ_cons, List.take_zero] at f0 f1 f2 f3 f4
  obtain ⟨n0, h0, g0⟩ := open_int1 Tryz.underlying3 f0
  obtain ⟨v1, l1, h1, g1⟩ := open_Strs f1
  obtain ⟨v2, l2, h2, g2⟩ := open_Ints f2
  obtain ⟨v3, l3, h3, g3⟩ := open_Rules f3
  obtain ⟨v4, l4, h4, g4⟩ := open_Mins f4
  simp only [List.cons.injEq, and_true] at h0 h1 h2 h3 h4
  subst h0 h1 h2 h3 h4
  exact ⟨⟨n0, l1, l2, l3, l4⟩, _, _, _, _, rfl, wf_i64 g0, g1, g2, g3, g4⟩

end

end Go.Proofs.YtoahecjdkgeamaaGreatDoor

/- ostlerlaw26.Subset: its contract. -/
namespace Go.Proofs.YtoahecjdkgeamaaGreatDoor
open Go.RowKit

/-- Bit k of a number. -/
def bitAt (bits : Int) (k : Nat) : Bool := decide (bits / 2 ^ k % 2 = 1)
/-- The atoms among 1, .., k whose bits are set. -/
def subL (bits : Int) : Nat → List Int
  | 0 => []
  | k + 1 => if bitAt bits k then subL bits k ++ [(k : Int) + 1] else subL bits k

theorem subL_len (bits : Int) : ∀ k, (subL bits k).length ≤ k
  | 0 => by simp [subL]
  | k + 1 => by
    have := subL_len bits k
    unfold subL
    split
    · rw [List.length_append, List.length_singleton]; omega
    · omega

theorem subL_range (bits : Int) : ∀ k, ∀ x ∈ subL bits k, 1 ≤ x ∧ x ≤ k
  | 0, x, h => by simp [subL] at h
  | k + 1, x, h => by
    unfold subL at h
    split at h
    · rcases List.mem_append.1 h with h | h
      · have := subL_range bits k x h; omega
      · obtain rfl : x = (k : Int) + 1 := by simpa using h
        omega
    · have := subL_range bits k x h; omega

theorem subL_sorted (bits : Int) : ∀ k, (subL bits k).Pairwise (· < ·)
  | 0 => by simp [subL]
  | k + 1 => by
    unfold subL
    split
    · refine List.pairwise_append.2 ⟨subL_sorted bits k, by simp, fun x hx y hy => ?_⟩
      obtain rfl : y = (k : Int) + 1 := by simpa using hy
      have := subL_range bits k x hx
      omega
    · exact subL_sorted bits k

theorem and_one_i64 (x : Int) : Go.bits .and .i64 x 1 = x % 2 := by
  unfold Go.bits
  simp only [BitVec.toNat_and, BitVec.toNat_ofInt]
  have e : ((1 : Int) % ((2 ^ IntKind.i64.bits : Nat) : Int)).toNat = 1 := by decide
  rw [e, Nat.and_one_is_mod]
  have e2 : ((2 ^ IntKind.i64.bits : Nat) : Int) = 18446744073709551616 := by decide
  rw [e2, IntKind.wrap_i64]
  omega

theorem bit_test {bits : Int} {k : Nat} : (Go.bits .and .i64 (bits / 2 ^ k) 1 == 1) = bitAt bits k := by
  rw [and_one_i64]
  unfold bitAt
  rw [Bool.eq_iff_iff, beq_iff_eq, decide_eq_true_eq]

def SbRel (bits : Int) (w : World) (n : Nat) (v i : Value) (wx : World) : Prop :=
  ∃ k : Nat, k ≤ n ∧ i = .int .i64 ((k : Int) + 1) ∧ QRow w.heap.size wx v (subL bits k) ∧ Below w.heap.size w wx

set_option maxHeartbeats 1000000 in
set_option maxRecDepth 100000 in
theorem subset_any (n : Nat) (bits : Int) (hn : n ≤ 60) (w : World) :
    Calls Tryz.prog 23 #[.int .i64 n, .int .i64 bits] w fun e w' => ∃ v, e = .returned v ∧ QRow w.heap.size w' v (subL bits n) ∧ Below w.heap.size w w' := by
  go_enter Tryz.func23, Tryz.ntmps23
  go_wp2
  go_loopw [5, 6] (fun v i wx => SbRel bits w n v i wx) (fun _ i _ => n + 1 - (intOf i).toNat)
  case atStart => exact ⟨0, Nat.zero_le _, rfl, QRow.nil _ _, Below.refl _ _⟩
  case round =>
    obtain ⟨k, hk, rfl, hq, hbl⟩ := hrel
    have HQ := Lib.hid hq
    have HBX := Lib.hid hbl
    have hlen2 := subL_len bits k
    have hlen3 : ((subL bits k).length + 1) * 8 ≤ 140737488351232 := by omega
    obtain ⟨av, nv, cv, rfl⟩ := hq.form
    have hzr := hbl.size
    clear hq hbl
    by_cases hlt : k < n
    · have hbt := bit_test (bits := bits) (k := k)
      have hmin : min k 64 = k := Nat.min_eq_left (by omega)
      cases hb : bitAt bits k with
      | true =>
        rw [hb] at hbt
        have HS : Hid (subL bits (k + 1) = subL bits k ++ [(k : Int) + 1]) := Lib.hid (by simp [subL, hb])
        have hxI : InI ((k : Int) + 1) := by unfold InI; omega
        have HXI := Lib.hid hxI
        clear hb hxI
        go_wp2_with (at_builtin; refine wpList_appendQ rfl _ _ 23 Tryz.underlying23 rfl w.heap.size _ (subL bits k) ((k : Int) + 1) rfl (HQ.out.kept (w' := wr.alloc (.cells #[.int .i64 ((k : Int) + 1)] 3)) (fun i h1 h2 _ => Below.heap_alloc _ _ _ h2)) wr.heap.size 1 rfl (Blk.new wr [.int .i64 ((k : Int) + 1)] _) HXI.out hlen3 (by simp; omega) ?_; intro v4 w4 hq4 hg4 hl4; have HB4 := Lib.hid (below_push HBX.out HQ.out (Nat.le_refl _) hg4); have HQ4 := Lib.hid hq4; clear hq4 hg4 hl4)
        first
          | (go_roundw
             case rel => (exact ⟨k + 1, hlt, by go_num, by rw [HS.out]; exact HQ4.out, HB4.out⟩)
             case measure => (simp [intOf]; omega))
          | (refine ⟨?_, ?_⟩
             · (exact ⟨k + 1, hlt, by go_num, by rw [HS.out]; exact HQ4.out, HB4.out⟩)
             · (simp [intOf]; omega))
      | false =>
        rw [hb] at hbt
        have HS : Hid (subL bits (k + 1) = subL bits k) := Lib.hid (by simp [subL, hb])
        clear hb
        go_wp2
        first
          | (go_roundw
             case rel => (exact ⟨k + 1, hlt, by go_num, by rw [HS.out]; exact HQ.out, HBX.out⟩)
             case measure => (simp [intOf]; omega))
          | (refine ⟨?_, ?_⟩
             · (exact ⟨k + 1, hlt, by go_num, by rw [HS.out]; exact HQ.out, HBX.out⟩)
             · (simp [intOf]; omega))
    · obtain rfl : k = n := by omega
      go_wp2
      go_ret
      exact ⟨_, rfl, HQ.out, HBX.out⟩

theorem subset_int (x bits : Int) (hx : 0 ≤ x ∧ x ≤ 60) (w : World) :
    Calls Tryz.prog 23 #[.int .i64 x, .int .i64 bits] w fun e w' => ∃ v, e = .returned v ∧ QRow w.heap.size w' v (subL bits x.toNat) ∧ Below w.heap.size w w' := by
  obtain ⟨n, rfl⟩ := Int.eq_ofNat_of_zero_le hx.1
  exact subset_any n bits (by omega) w

end Go.Proofs.YtoahecjdkgeamaaGreatDoor

/- ostlerlaw26: what the laws of the chapter lean on. -/
namespace Go.Proofs.YtoahecjdkgeamaaGreatDoor
open Go.RowKit

/-- What a law leans on: its program. -/
structure LwSt (w : World) (p : GP) (vn vs vr vm : Value) (W : World) : Prop where
  box : Blk W w.heap.size [.int .i64 p.n, vn, vs, vr, vm] 27
  prog : ProgIs W (.agg #[.int .i64 p.n, vn, vs, vr, vm]) p
  below : Below w.heap.size w W

theorem LwSt.on {w W W' : World} {p : GP} {vn vs vr vm : Value} (h : LwSt w p vn vs vr vm W) (hb : Below W.heap.size W W') : LwSt w p vn vs vr vm W' := ⟨h.box.below hb, h.prog.below hb, bon h.below hb⟩
theorem LwSt.alloc {w W : World} {p : GP} {vn vs vr vm : Value} (h : LwSt w p vn vs vr vm W) (o : Obj) : LwSt w p vn vs vr vm (W.alloc o) := h.on (bal (Below.refl _ _) _)

theorem LwSt.start {w : World} {p : GP} {vn vs vr vm : Value} (h : ProgIs w (.agg #[.int .i64 p.n, vn, vs, vr, vm]) p) : LwSt w p vn vs vr vm (w.alloc (.cells #[.int .i64 p.n, vn, vs, vr, vm] 27)) := by
  have hal : Below w.heap.size w (w.alloc (.cells #[.int .i64 p.n, vn, vs, vr, vm] 27)) := bal (Below.refl _ _) _
  exact ⟨Blk.new w _ _, h.below hal, hal⟩

theorem nil_i (w : World) : Ints w (.slice none 0 0) [] := nil_ints w

end Go.Proofs.YtoahecjdkgeamaaGreatDoor

/- ostlerlaw26.CompleteBodies returns true and writes nothing that was there. -/
namespace Go.Proofs.YtoahecjdkgeamaaGreatDoor
open Go.RowKit

/-! ### Subset -/
theorem subL_set (bits : Int) {n : Int} (_hn : 0 ≤ n) : setQ n (subL bits n.toNat) = true := by
  unfold setQ
  refine allR_true fun j hj => ?_
  unfold setTo
  have h1 := subL_range bits n.toNat _ (ix_mem hj)
  rw [decide_eq_true (show 1 ≤ ix (subL bits n.toNat) j ∧ ix (subL bits n.toNat) j ≤ n by omega), Bool.true_and, Bool.or_eq_true]
  cases j with
  | zero => exact .inl rfl
  | succ j =>
    refine .inr (decide_eq_true ?_)
    rw [Nat.add_sub_cancel, ix_get (by omega), ix_get hj]
    exact List.pairwise_iff_getElem.1 (subL_sorted bits n.toNat) j (j + 1) (by omega) hj (by omega)

end Go.Proofs.YtoahecjdkgeamaaGreatDoor

/- The copy of a rule, of a list of rules. -/
namespace Go.Proofs.YtoahecjdkgeamaaGreatDoor
open Go.RowKit
attribute [local go_sem] memUpon

/-! ### A program's rules, copied -/
/-- The rules in v, of the call's own. -/
structure Mine (B : Nat) (v : Value) (L : List RQ) (w : World) : Prop where
  row : w.ownsRow B 51 6 v L.length (L.flatMap cells6)
  each : ∀ q ∈ L, QRow B w q.2.1 q.1.head ∧ QRow B w q.2.2.1 q.1.body ∧ QRow B w q.2.2.2 q.1.w ∧ InI q.1.bound

theorem Mine.nil (B : Nat) (w : World) : Mine B (.slice none 0 0) [] w := ⟨⟨by simp, .inl ⟨rfl, rfl⟩⟩, fun q hq => by simp at hq⟩

section
variable {B n : Nat} {xs : List Value} {v : Value} {w w' : World} {L : List RQ}

/-- The row of rules may turn: a row of ints does not. -/
theorem QRow.rowKept {u : Value} {l : List Int} (h : QRow B w u l) (hr : w.ownsRow B 51 6 v n xs) (hg : w.grownBy w' v.ownBlock) : QRow B w' u l := by
  refine h.kept fun i hi hi2 hu => hg.block i hi2 (fun e => ?_)
  rcases hr.2 with ⟨rfl, _⟩ | ⟨g, cap, cur, rfl, hb, hgg, _⟩
  · cases e
  · simp only [Value.ownBlock, Option.some.injEq] at e
    subst e
    rcases h.2 with ⟨rfl, _⟩ | ⟨g', off, cap', cur', rfl, _, hgg', _⟩
    · cases hu
    · simp only [Value.ownBlock, Option.some.injEq] at hu
      subst hu
      rw [hgg'] at hgg
      have := Option.some.inj hgg
      injection this with _ h2 _
      revert h2; decide

theorem Mine.below (h : Mine B v L w) (hb : Below w.heap.size w w') : Mine B v L w' :=
  ⟨rowBelow h.row hb, fun q hq => let ⟨h1, h2, h3, h4⟩ := h.each q hq; ⟨h1.below hb, h2.below hb, h3.below hb, h4⟩⟩

theorem Mine.push {g cap : Nat} {q : RQ} (h : Mine B v L w) (hq : QRow B w q.2.1 q.1.head ∧ QRow B w q.2.2.1 q.1.body ∧ QRow B w q.2.2.2 q.1.w ∧ InI q.1.bound)
    (hown : w'.ownsRow B 51 6 (.slice (some ⟨g, 0, none⟩) (L.length + 1) cap) (L.length + 1) (L.flatMap cells6 ++ cells6 q)) (hg : w.grownBy w' v.ownBlock) : Mine B (.slice (some ⟨g, 0, none⟩) (L.length + 1) cap) (L ++ [q]) w' := by
  refine ⟨by simpa using hown, fun q' hq' => ?_⟩
  simp only [List.mem_append, List.mem_singleton] at hq'
  rcases hq' with hq' | rfl
  · obtain ⟨h1, h2, h3, h4⟩ := h.each q' hq'
    exact ⟨h1.rowKept h.row hg, h2.rowKept h.row hg, h3.rowKept h.row hg, h4⟩
  · obtain ⟨h1, h2, h3, h4⟩ := hq
    exact ⟨h1.rowKept h.row hg, h2.rowKept h.row hg, h3.rowKept h.row hg, h4⟩

/-- A store elsewhere. -/
theorem Mine.setCell (h : Mine B v L w) {b : Nat} (o : Nat) (u : Value) (hb : b < B) : Mine B v L (w.setCell ⟨b, o, none⟩ u) := by
  have hk : ∀ i, B ≤ i → (w.setCell ⟨b, o, none⟩ u).heap[i]? = w.heap[i]? := fun i hi => Below.heap_setCell _ _ _ _ (show i ≠ b by omega)
  refine ⟨⟨h.row.1, ?_⟩, fun q hq => let ⟨h1, h2, h3, h4⟩ := h.each q hq; ⟨h1.kept fun i hi _ _ => hk i hi, h2.kept fun i hi _ _ => hk i hi, h3.kept fun i hi _ _ => hk i hi, h4⟩⟩
  rcases h.row.2 with hn | ⟨g, cap, cur, e, hbg, hgg, rest⟩
  · exact .inl hn
  · exact .inr ⟨g, cap, cur, e, hbg, (hk g hbg).trans hgg, rest⟩

theorem Mine.rules (h : Mine B v L w) (l : List GR) (hl : L.map (·.1) = l) (hfit : L.length * 88 ≤ 140737488351232) (hlen : ∀ q ∈ L, q.1.head.length * 8 ≤ 140737488351232 ∧ q.1.body.length * 8 ≤ 140737488351232 ∧ q.1.w.length * 8 ≤ 140737488351232) :
    RulesAt w v l (fun i => (L.getD i default).2.1) (fun i => (L.getD i default).2.2.1) (fun i => (L.getD i default).2.2.2) := by
  have hlen' : l.length = L.length := by rw [← hl]; simp
  have hq : ∀ i, i < l.length → L.getD i default ∈ L ∧ (L.getD i default).1 = ixR l i := fun i hi => by
    have hi' : i < L.length := by omega
    have e : L.getD i default = L[i] := by simp [List.getD_eq_getElem?_getD, List.getElem?_eq_getElem hi']
    rw [e]
    refine ⟨List.getElem_mem hi', ?_⟩
    subst hl
    simp [ixR, List.getD_eq_getElem?_getD, List.getElem?_eq_getElem hi']
  refine ⟨?_, fun i hi => ?_⟩
  · rw [hlen']
    rcases h.row.2 with ⟨rfl, h0⟩ | ⟨g, cap, cur, rfl, hb, hg, hn, hm, hs, hx⟩
    · exact ⟨none, 0, by rw [h0], by omega, by unfold maxLen; omega, by omega, fun hp => by omega⟩
    · refine ⟨_, cap, rfl, hn, hm, hfit, fun _ => ⟨g, 0, rfl, (Array.getElem?_eq_some_iff.1 hg).1, fun i hi j hj => ?_⟩⟩
      have h6 := flat6 L i j hi hj
      rw [← hx, List.getElem?_take_of_lt (by omega)] at h6
      rw [cell_of_row w g (0 + i * 6 + j) cur _ (0, 0) hg, Nat.zero_add]
      have e2 := (hq i (by omega)).2
      dsimp only
      rw [← e2]
      have : cur[i * 6 + j]? = cur.toList[i * 6 + j]? := by simp
      rw [this, h6]
      rcases (show j = 0 ∨ j = 1 ∨ j = 2 ∨ j = 3 ∨ j = 4 ∨ j = 5 by omega) with rfl | rfl | rfl | rfl | rfl | rfl <;> rfl
  · obtain ⟨hm, e⟩ := hq i hi
    obtain ⟨h1, h2, h3, h4⟩ := h.each _ hm
    obtain ⟨g1, g2, g3⟩ := hlen _ hm
    rw [← e]
    exact ⟨h1.ints g1, h2.ints g2, h3.ints g3, h4⟩
end

/-! ### Writing into the copy -/
/-- The copy's rules may be written into: the row of rules in block b; the bodies. Blocks B .. H - 1. -/
structure MW (B H : Nat) (ar : Option Addr) (n : Nat) (L : List RQ) (w : World) : Prop where
  row : 0 < n → ∃ b off cur, ar = some ⟨b, off, none⟩ ∧ B ≤ b ∧ b < H ∧ Blk w b cur 51 ∧ ∀ i, i < n → cur[off + i * 6 + 4]? = some (L.getD i default).2.2.1 ∧ ∃ bd : Int, cur[off + i * 6 + 3]? = some (.int .i64 bd)
  body : ∀ i, i < n → ∃ a c, (L.getD i default).2.2.1 = .slice a (L.getD i default).1.body.length c ∧ (0 < (L.getD i default).1.body.length → ∃ g off cur, a = some ⟨g, off, none⟩ ∧ B ≤ g ∧ g < H ∧ Blk w g cur 3 ∧ off + (L.getD i default).1.body.length ≤ cur.length)

section
variable {B H n : Nat} {ar : Option Addr} {L : List RQ} {w w' : World}

theorem MW.below (h : MW B H ar n L w) (hb : Below w.heap.size w w') : MW B H ar n L w' :=
  ⟨fun h0 => let ⟨b, off, cur, e, h1, h2, h3, h4⟩ := h.row h0; ⟨b, off, cur, e, h1, h2, h3.below hb, h4⟩,
   fun i hi => let ⟨a, c, e, k⟩ := h.body i hi; ⟨a, c, e, fun h0 => let ⟨g, off, cur, e, h1, h2, h3, h4⟩ := k h0; ⟨g, off, cur, e, h1, h2, h3.below hb, h4⟩⟩⟩

theorem MW.at {b off k nb c : Nat} {a : Option Addr} (h : MW B H (some ⟨b, off, none⟩) n L w) (hk : k < n) (e : (L.getD k default).2.2.1 = .slice a nb c) :
    (∃ cur, Blk w b cur 51 ∧ B ≤ b ∧ b < H) ∧ w.cell? ⟨b, off + k * 6 + 4, none⟩ = some (.slice a nb c) ∧ (∃ bd : Int, w.cell? ⟨b, off + k * 6 + 3, none⟩ = some (.int .i64 bd)) ∧ w.frozen? ⟨b, off + k * 6 + 3, none⟩ = false ∧
      (0 < nb → ∃ g off2 cur2, a = some ⟨g, off2, none⟩ ∧ B ≤ g ∧ g < H ∧ Blk w g cur2 3 ∧ off2 + nb ≤ cur2.length) := by
  obtain ⟨b', off', cur, e1, h1, h2, h3, h4⟩ := h.row (by omega)
  simp only [Option.some.injEq, Addr.mk.injEq, and_true] at e1
  obtain ⟨rfl, rfl⟩ := e1
  obtain ⟨k1, bd, k2⟩ := h4 k hk
  rw [e] at k1
  obtain ⟨a', c', e', k5⟩ := h.body k hk
  rw [e] at e'
  simp only [Value.slice.injEq] at e'
  obtain ⟨rfl, rfl, rfl⟩ := e'
  exact ⟨⟨cur, h3, h1, h2⟩, (h3.cell _).trans k1, ⟨bd, (h3.cell _).trans k2⟩, h3.free _, k5⟩
end

end Go.Proofs.YtoahecjdkgeamaaGreatDoor

/- 'append([]GRule{}, p.Rules...)': a copy of the rules. -/
namespace Go.Proofs.YtoahecjdkgeamaaGreatDoor
open Go.RowKit

def rowsOf (l : List GR) (vh vb vw : Nat → Value) : List RQ := (List.range l.length).map fun i => (ixR l i, vh i, vb i, vw i)

theorem rowsOf_len (l : List GR) (vh vb vw : Nat → Value) : (rowsOf l vh vb vw).length = l.length := by simp [rowsOf]

theorem rowsOf_cell {l : List GR} {vh vb vw : Nat → Value} {i j : Nat} (hi : i < l.length) (hj : j < 6) : ((rowsOf l vh vb vw).flatMap cells6)[i * 6 + j]? = some (ruleCell (ixR l i) (vh i) (vb i) (vw i) j) := by
  rw [flat6 _ i j (by rw [rowsOf_len]; exact hi) hj]
  have e : (rowsOf l vh vb vw).getD i default = (ixR l i, vh i, vb i, vw i) := by
    simp [rowsOf, List.getD_eq_getElem?_getD, hi]
  rw [e]
  rcases (show j = 0 ∨ j = 1 ∨ j = 2 ∨ j = 3 ∨ j = 4 ∨ j = 5 by omega) with rfl | rfl | rfl | rfl | rfl | rfl <;> rfl

theorem flat_len : ∀ L : List RQ, (L.flatMap cells6).length = L.length * 6
  | [] => rfl
  | q :: L => by
    rw [List.flatMap_cons, List.length_append, flat_len L, List.length_cons]
    simp [cells6]
    omega

theorem rows_src {w : World} {x : Value} {l : List GR} {vh vb vw : Nat → Value} (h : Rows w x 6 88 l.length (fun i => ruleCell (ixR l i) (vh i) (vb i) (vw i))) (hs : ∀ i, i < l.length → RuleSl w (ixR l i) (vh i) (vb i) (vw i)) :
    _root_.Go.Src Tryz.prog 6 24 x l.length ((rowsOf l vh vb vw).flatMap cells6) w := by
  obtain ⟨a, c, rfl, -, -, -, hc⟩ := h
  have hone : ∀ u ∈ (rowsOf l vh vb vw).flatMap cells6, u.oneCell' = true := fun u hu => by
    obtain ⟨q, hq, hu⟩ := List.mem_flatMap.1 hu
    obtain ⟨i, hi, rfl⟩ := List.mem_map.1 hq
    have h1 := hs i (List.mem_range.1 hi)
    obtain ⟨⟨_, _, e1, -⟩, -⟩ := h1.head
    obtain ⟨⟨_, _, e2, -⟩, -⟩ := h1.body
    obtain ⟨⟨_, _, e3, -⟩, -⟩ := h1.wts
    simp only [cells6, e1, e2, e3, List.mem_cons, List.not_mem_nil, or_false] at hu
    rcases hu with rfl | rfl | rfl | rfl | rfl | rfl <;> rfl
  rcases Nat.eq_zero_or_pos l.length with h0 | h0
  · have e : (rowsOf l vh vb vw).flatMap cells6 = [] := List.eq_nil_of_length_eq_zero (by rw [flat_len, rowsOf_len, h0])
    rw [e, h0]
    cases a with
    | none => exact _root_.Go.Src.ofNil w Tryz.underlying24 c
    | some a => exact _root_.Go.Src.ofSlice w Tryz.underlying24 a 0 c [] (by simp) (fun j u hu => by simp at hu) (fun u hu => by simp at hu)
  · obtain ⟨b, off, rfl, -, hcc⟩ := hc h0
    refine _root_.Go.Src.ofSlice w Tryz.underlying24 ⟨b, off, none⟩ _ c _ (by rw [flat_len, rowsOf_len]) (fun j u hu => ?_) hone
    have hj : j < l.length * 6 := by
      have := (List.getElem?_eq_some_iff.1 hu).1
      rwa [flat_len, rowsOf_len] at this
    have hadd : (⟨b, off, none⟩ : Addr).add j = ⟨b, off + j, none⟩ := by unfold Addr.add; split <;> simp_all
    have e : j / 6 * 6 + j % 6 = j := by omega
    have h1 := rowsOf_cell (l := l) (vh := vh) (vb := vb) (vw := vw) (i := j / 6) (j := j % 6) (by omega) (by omega)
    rw [e, hu] at h1
    rw [hadd, ← e, ← Nat.add_assoc, hcc (j / 6) (by omega) (j % 6) (by omega)]
    exact h1.symm

section
variable {w : World} {x : Value} {l : List GR} {vh vb vw : Nat → Value}

end

end Go.Proofs.YtoahecjdkgeamaaGreatDoor
