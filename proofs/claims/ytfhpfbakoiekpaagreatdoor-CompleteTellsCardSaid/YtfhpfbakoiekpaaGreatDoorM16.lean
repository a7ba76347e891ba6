/- My texts Vars, Aw2, Open, Lw26, SrcSt, Plain2, merged. -/
import Derived.Test.YtfhpfbakoiekpaaGreatDoorM04
import Derived.Test.YtfhpfbakoiekpaaGreatDoorM12
import Derived.Test.YtfhpfbakoiekpaaGreatDoorM15
import Derived.Test.YtfhpfbakoiekpaaGreatDoorM07
import Derived.Test.YtfhpfbakoiekpaaGreatDoorM02
import Derived.Test.YtfhpfbakoiekpaaGreatDoorM00
import Derived.ProofKit
import Derived.OpenShut
import Derived.ChangeArms
import Derived.SizedLaws
import Derived.Test.YtfhpfbakoiekpaaGreatDoorM14
import Derived.Deep.DeepCutAuto
import Derived.Test.YtfhpfbakoiekpaaGreatDoorM03

/- complete.Vars: its contract. -/
namespace Go.Proofs.YtfhpfbakoiekpaaGreatDoor
open Go.RowKit

/-- The number of variables. -/
def varsI (p : GP) : Int := if validE p = 0 then p.n + p.rules.length else 0

theorem varsI_any (v : Value) (p : GP) (w : World) (h : ProgIs w v p) :
    Calls Tryz.prog 18 #[v] w fun e w' => e = .returned (.int .i64 (varsI p)) ∧ Below w.heap.size w w' := by
  have h0 := h
  obtain ⟨vn, vs, vr, vm, rfl, hn, hnames, hshown, hrules, hmin⟩ := h
  have hal := bal (Below.refl w.heap.size w) (.cells #[.int .i64 p.n, vn, vs, vr, vm] 27)
  have HP := Lib.hid (h0.below hal)
  obtain ⟨a1, c1, rfl, -, hl1, -, hcell⟩ := hrules.form
  clear h0 hnames hshown hmin hrules hcell
  by_cases hv : validE p = 0
  · have hV := validP hv
    have hvn := hV.n
    have hvr := hV.rules
    have hve : (validE p != 0) = false := by simp [hv]
    have HF : Hid (varsI p = p.n + p.rules.length) := Lib.hid (if_pos hv)
    clear hv hV
    go_enter Tryz.func18, Tryz.ntmps18
    go_wp2_with (go_at_call 36; refine (valid_any _ p _ HP.out).mono ?_; rintro e w1 ⟨rfl, hb1⟩; have hc1 := bcell hb1; have hz1 : w.heap.size < w1.heap.size := (by have := hb1.size; simp at this; omega))
    go_ret
    exact ⟨ret_int HF.out.symm, bon hal hb1⟩
  · have hve : (validE p != 0) = true := by simp [hv]
    have HF : Hid (varsI p = 0) := Lib.hid (if_neg hv)
    clear hv
    go_enter Tryz.func18, Tryz.ntmps18
    go_wp2_with (go_at_call 36; refine (valid_any _ p _ HP.out).mono ?_; rintro e w1 ⟨rfl, hb1⟩)
    go_ret
    exact ⟨ret_int HF.out.symm, bon hal hb1⟩

end Go.Proofs.YtfhpfbakoiekpaaGreatDoor

/- ostlerlaw26.awake returns true. -/
namespace Go.Proofs.YtfhpfbakoiekpaaGreatDoor
open Go.RowKit

theorem compl_valid {p : GP} (hv : validE p = 0) (v : Value) (w : World) (h : ProgIs w v p) {n : Nat} (hn : (compL p).length = n) :
    Calls Tryz.prog 16 #[v] w fun e w' => ∃ a c, e = .returned (.tuple #[.slice a n c, .int .i64 0]) ∧ PBsIs w' (.slice a n c) (compL p) ∧ Below w.heap.size w w' :=
  (compl_any v p w h).mono fun e w' ⟨vo, h1, h2, h3⟩ => by
    rw [if_pos hv] at h1 h2
    obtain ⟨a, c, rfl, -⟩ := h2.form
    rw [hn] at h1 h2
    exact ⟨a, c, h1, h2, h3⟩

theorem two_compl (v : Value) (w : World) (h : ProgIs w v twoP) :
    Calls Tryz.prog 16 #[v] w fun e w' => ∃ a c, e = .returned (.tuple #[.slice a 8 c, .int .i64 0]) ∧ PBsIs w' (.slice a 8 c) (compL twoP) ∧ Below w.heap.size w w' := compl_valid two_valid v w h (by rw [two_comp]; rfl)
theorem tsum_compl (v : Value) (w : World) (h : ProgIs w v tsumP) :
    Calls Tryz.prog 16 #[v] w fun e w' => ∃ a c, e = .returned (.tuple #[.slice a 6 c, .int .i64 0]) ∧ PBsIs w' (.slice a 6 c) (compL tsumP) ∧ Below w.heap.size w w' := compl_valid tsum_valid v w h tsum_len

/-- What awake leans on: a program in its box. -/
structure BoxP (b : Nat) (n : Int) (vn vr : Value) (p : GP) (W : World) : Prop where
  prog : ProgIs W (.agg #[.int .i64 n, vn, .slice none 0 0, vr, .slice none 0 0]) p
  box : Blk W b [.int .i64 n, vn, .slice none 0 0, vr, .slice none 0 0] 27

theorem BoxP.on {b : Nat} {n : Int} {vn vr : Value} {p : GP} {W W' : World} (h : BoxP b n vn vr p W) (hb : Below W.heap.size W W') : BoxP b n vn vr p W' := ⟨h.prog.below hb, h.box.below hb⟩

/-- The first three constraints of the second program. -/
structure Sum3 (a : Option Addr) (b o : Nat) (v0 u0 v1 u1 v2 u2 : Value) (W : World) : Prop where
  lt : b < W.heap.size
  at0 : PBCells W b o ct1 v0 u0
  at1 : PBCells W b (o + 3) ct2 v1 u1
  at2 : PBCells W b (o + 6) ct3 v2 u2
  is0 : PBIs W (.agg #[v0, u0, .int .i64 2]) ct1
  is1 : PBIs W (.agg #[v1, u1, .int .i64 2]) ct2
  is2 : PBIs W (.agg #[v2, u2, .int .i64 1]) ct3

theorem Sum3.on {a : Option Addr} {b o : Nat} {v0 u0 v1 u1 v2 u2 : Value} {W W' : World} (h : Sum3 a b o v0 u0 v1 u1 v2 u2 W) (hb : Below W.heap.size W W') : Sum3 a b o v0 u0 v1 u1 v2 u2 W' :=
  ⟨Nat.lt_of_lt_of_le h.lt hb.size, h.at0.below hb h.lt, h.at1.below hb h.lt, h.at2.below hb h.lt, h.is0.below hb, h.is1.below hb, h.is2.below hb⟩

theorem sum3_of {W : World} {a : Option Addr} {c : Nat} (h : PBsIs W (.slice a 6 c) (compL tsumP)) :
    ∃ b o v0 u0 v1 u1 v2 u2, a = some ⟨b, o, none⟩ ∧ Sum3 a b o v0 u0 v1 u1 v2 u2 W := by
  obtain ⟨a2, c2, e, -, -, -, hc⟩ := h.form
  simp only [Value.slice.injEq] at e
  obtain ⟨rfl, -, -⟩ := e
  obtain ⟨b, o, rfl, hb, hcc⟩ := hc (by rw [tsum_len]; omega)
  obtain ⟨v0, u0, h0, s0⟩ := hcc 0 (by rw [tsum_len]; omega)
  obtain ⟨v1, u1, h1, s1⟩ := hcc 1 (by rw [tsum_len]; omega)
  obtain ⟨v2, u2, h2, s2⟩ := hcc 2 (by rw [tsum_len]; omega)
  rw [show ixC (compL tsumP) 0 = ct1 from tsum_0] at h0 s0
  rw [show ixC (compL tsumP) 1 = ct2 from tsum_1] at h1 s1
  rw [show ixC (compL tsumP) 2 = ct3 from tsum_2] at h2 s2
  exact ⟨b, o, v0, u0, v1, u1, v2, u2, rfl, hb, h0, h1, h2, s0.is, s1.is, s2.is⟩

theorem two_vars : varsI twoP = 4 := by kernel_rfl
theorem two_body : bodyI twoP 1 = 4 := by kernel_rfl
theorem twoT_small : ∀ x ∈ twoT, x.size ≤ 1000 := by decide
theorem two_sp1 : (decide (validE twoP = 0) && (setQ twoP.n [1] && suppB twoP [1])) = true := by kernel_rfl
theorem two_sp0 : (decide (validE twoP = 0) && (setQ twoP.n [] && suppB twoP [])) = false := by kernel_rfl

theorem row_strs {B n : Nat} {v : Value} {l : List ByteArray} {w : World} (h : w.ownsRow B 9 1 v n (l.map Value.string)) (hn : n = l.length) (hs : ∀ x ∈ l, x.size ≤ 1000) (hl : l.length ≤ 1000) : Strs w v l := by
  subst hn
  have hx : ∀ i, (ixS l i).size ≤ 140737488351232 := fun i => by
    unfold ixS
    rw [List.getD_eq_getElem?_getD]
    cases e : l[i]? with
    | none => decide
    | some x =>
      have := hs x (List.mem_of_getElem? e)
      simp only [Option.getD_some]
      omega
  refine ⟨Own1.sl (base := B) (E := 9) ⟨?_, by omega⟩, hx⟩
  have e : (List.range l.length).map (fun i => Value.string (ixS l i)) = l.map Value.string := by
    apply List.ext_getElem (by simp)
    intro i h1 h2
    simp only [List.getElem_map, List.getElem_range]
    rw [ixS_get (by simpa using h2)]
  rw [e]
  exact h

theorem smallC_string {c : PBC} {W : World} {vl vk : Value} {bd : Int} (_hb : c.bound = bd) (h : PBIs W (.agg #[vl, vk, .int .i64 bd]) c) (hs : smallC c = true) {l : List UInt8} (hl2 : strT c = l) :
    Calls Tryz.prog 25 #[.agg #[vl, vk, .int .i64 bd]] W fun e w' => e = .returned (.string ⟨l.toArray⟩) ∧ Below W.heap.size W w' := hl2 ▸ string_small _ c W h hs

/-- What the last statement leans on. -/
structure A4 (w : World) (bp : Nat) (an : Option Addr) (nn cn : Nat) (ar : Option Addr) (nr cr : Nat) (ao : Option Addr) (co bs os : Nat) (v0 u0 v1 u1 v2 u2 : Value) (W : World) : Prop where
  p : BoxP bp 2 (.slice an nn cn) (.slice ar nr cr) twoP W
  l : PBsIs W (.slice ao 8 co) (compL twoP)
  s : Sum3 (some ⟨bs, os, none⟩) bs os v0 u0 v1 u1 v2 u2 W
  b : Below w.heap.size w W

theorem A4.on {w : World} {bp : Nat} {an : Option Addr} {nn cn : Nat} {ar : Option Addr} {nr cr : Nat} {ao : Option Addr} {co bs os : Nat} {v0 u0 v1 u1 v2 u2 : Value} {W W' : World} (h : A4 w bp an nn cn ar nr cr ao co bs os v0 u0 v1 u1 v2 u2 W) (hb : Below W.heap.size W W') : A4 w bp an nn cn ar nr cr ao co bs os v0 u0 v1 u1 v2 u2 W' :=
  ⟨h.p.on hb, h.l.below hb, h.s.on hb, bon h.b hb⟩
theorem A4.alloc {w : World} {bp : Nat} {an : Option Addr} {nn cn : Nat} {ar : Option Addr} {nr cr : Nat} {ao : Option Addr} {co bs os : Nat} {v0 u0 v1 u1 v2 u2 : Value} {W : World} (h : A4 w bp an nn cn ar nr cr ao co bs os v0 u0 v1 u1 v2 u2 W) (o : Obj) : A4 w bp an nn cn ar nr cr ao co bs os v0 u0 v1 u1 v2 u2 (W.alloc o) :=
  h.on (bal (Below.refl _ _) _)

theorem texts_two (v : Value) (w : World) (h : PBsIs w v (compL twoP)) :
    Calls Tryz.prog 50 #[v] w fun e w' => ∃ a n c, e = .returned (.slice a n c) ∧ Strs w' (.slice a n c) twoT ∧ Below w.heap.size w w' :=
  (texts_any _ (compL twoP) _ h smallC_all (by rw [two_comp]; decide)).mono fun e w' ⟨vo, h1, h2, h3⟩ => by
    rw [two_text, show (compL twoP).length = 8 by rw [two_comp]; rfl] at h2
    obtain ⟨a, n, c, rfl⟩ := row_form h2
    exact ⟨a, n, c, h1, row_strs h2 rfl twoT_small (by decide), h3⟩
theorem strings_two (v v2 : Value) (w : World) (h : Strs w v twoT) (h2 : Strs w v2 twoT) :
    Calls Tryz.prog 49 #[v, v2] w fun e w' => e = .returned (.bool true) ∧ Below w.heap.size w w' :=
  (strings_any _ _ twoT twoT _ h h2).mono fun e w' ⟨h1, h2⟩ => ⟨h1.trans (by simp), h2⟩
theorem ext_two (v vm : Value) (w : World) (h : ProgIs w v twoP) (hm : Ints w vm [1]) :
    Calls Tryz.prog 21 #[v, vm] w fun e w' => ∃ a n c, e = .returned (.slice a n c) ∧ Bytes8 w' (.slice a n c) [1, -1, 1, -1] ∧ Below w.heap.size w w' :=
  (extend_any _ _ twoP [1] _ h hm).mono fun _ _ ⟨a, c, h1, h2, h3⟩ => ⟨a, _, c, h1, two_ext ▸ h2, h3⟩
theorem bits_two (v v2 : Value) (w : World) (h : Bytes8 w v [1, -1, 1, -1]) (h2 : Bytes8 w v2 [1, -1, 1, -1]) :
    Calls Tryz.prog 20 #[v, v2] w fun e w' => e = .returned (.bool true) ∧ Below w.heap.size w w' :=
  (bits_any _ _ _ _ _ h h2).mono fun e w' ⟨h1, h2⟩ => ⟨h1.trans (by simp), h2⟩
theorem sup_two1 (v vm : Value) (w : World) (h : ProgIs w v twoP) (hm : Ints w vm [1]) :
    Calls Tryz.prog 23 #[v, vm] w fun e w' => e = .returned (.bool true) ∧ Below w.heap.size w w' :=
  (supported_any _ _ twoP [1] _ h hm).mono fun e w' ⟨h1, h2⟩ => ⟨h1.trans (by rw [two_sp1]), h2⟩
theorem sup_two0 (v : Value) (w : World) (h : ProgIs w v twoP) :
    Calls Tryz.prog 23 #[v, .slice none 0 0] w fun e w' => e = .returned (.bool false) ∧ Below w.heap.size w w' :=
  (supported_any _ _ twoP [] _ h (nil_ints _)).mono fun e w' ⟨h1, h2⟩ => ⟨h1.trans (by rw [two_sp0]), h2⟩
theorem strs_two {w : World} : Strs (w.alloc (.cells #[.string ⟨#[49, 32, 126, 120, 50, 32, 49, 32, 126, 120, 51, 32, 62, 61, 32, 49]⟩, .string ⟨#[49, 32, 120, 50, 32, 49, 32, 120, 51, 32, 62, 61, 32, 49]⟩, .string ⟨#[49, 32, 120, 49, 32, 49, 32, 126, 120, 51, 32, 62, 61, 32, 49]⟩, .string ⟨#[49, 32, 126, 120, 49, 32, 49, 32, 126, 120, 52, 32, 62, 61, 32, 49]⟩, .string ⟨#[49, 32, 120, 49, 32, 49, 32, 120, 52, 32, 62, 61, 32, 49]⟩, .string ⟨#[49, 32, 120, 50, 32, 49, 32, 126, 120, 52, 32, 62, 61, 32, 49]⟩, .string ⟨#[49, 32, 126, 120, 49, 32, 49, 32, 120, 51, 32, 62, 61, 32, 49]⟩, .string ⟨#[49, 32, 126, 120, 50, 32, 49, 32, 120, 52, 32, 62, 61, 32, 49]⟩] 9)) (.slice (some ⟨w.heap.size, 0, none⟩) 8 8) twoT := (Blk.new w (twoT.map Value.string) 9).strs twoT_small (by decide)
theorem bytes_two {w : World} : Bytes8 (w.alloc (.cells #[.int .i8 1, .int .i8 (-1), .int .i8 1, .int .i8 (-1)] 55)) (.slice (some ⟨w.heap.size, 0, none⟩) 4 4) [1, -1, 1, -1] :=
  Blk.bytes8 (l := [1, -1, 1, -1]) (Blk.new w [.int .i8 1, .int .i8 (-1), .int .i8 1, .int .i8 (-1)] _) (fit8 (by simp)) (by simp)
theorem ints_one {w : World} : Ints (w.alloc (.cells #[.int .i64 1] 3)) (.slice (some ⟨w.heap.size, 0, none⟩) 1 1) [1] := (Blk.new w [.int .i64 1] _).ints1 (inI_small (by decide))

set_option maxHeartbeats 4000000 in
set_option maxRecDepth 100000 in
theorem awake26_any (w : World) : Calls Tryz.prog 14 #[] w fun e w' => e = .returned (.bool true) ∧ Below w.heap.size w w' := by
  go_enter Tryz.func14, Tryz.ntmps14
  go_upto_region 2 with (go_at_call 48; (with_reducible refine (two_any _).mono ?_); rintro e w1 ⟨v, rfl, ⟨an, nn, cn, ar, nr, cr, rfl⟩, hp, hb1⟩; have hal := bal (Below.refl w1.heap.size w1) (.cells #[.int .i64 2, .slice an nn cn, .slice none 0 0, .slice ar nr cr, .slice none 0 0] 27); have HP1 : Hid (BoxP w1.heap.size 2 (.slice an nn cn) (.slice ar nr cr) twoP (w1.alloc (.cells #[.int .i64 2, .slice an nn cn, .slice none 0 0, .slice ar nr cr, .slice none 0 0] 27))) := Lib.hid ⟨hp.below hal, Blk.new w1 _ _⟩; have HB1 := Lib.hid (bon hb1 hal); clear hp hb1 hal)
  have kx := HP1.out.box.cell
  generalize w1.alloc (.cells #[.int .i64 2, .slice an nn cn, .slice none 0 0, .slice ar nr cr, .slice none 0 0] 27) = W1 at *
  go_upto_region 3 with (go_at_call 16; (with_reducible refine (two_compl _ _ HP1.out.prog).mono ?_); rintro e w2 ⟨ao, co, rfl, ho, hb2⟩; have HL2 := Lib.hid ho; have HP2 := Lib.hid (HP1.out.on hb2); have HB2 := Lib.hid (bon HB1.out hb2); clear ho hb2 kx)
  go_upto_region 4 with fail
  generalize hW : World.alloc _ (.cells #[.int .i64 3, _, .slice none 0 0, _, .slice none 0 0] 27) = W3
  have b1 : Blk W3 (w2.heap.size) ([⟨#[97]⟩, ⟨#[98]⟩, ⟨#[99]⟩].map Value.string) 9 := by rw [← hW]; (repeat first | (refine Blk.newAt _ _ _ ?_; first | rfl | (simp only [World.size_alloc]; done) | (simp only [World.size_alloc]; omega)) | refine Blk.alloc ?_ _)
  have b2 : Blk W3 (w2.heap.size + 1) [.int .i64 3] 3 := by rw [← hW]; (repeat first | (refine Blk.newAt _ _ _ ?_; first | rfl | (simp only [World.size_alloc]; done) | (simp only [World.size_alloc]; omega)) | refine Blk.alloc ?_ _)
  have b3 : Blk W3 (w2.heap.size + 1 + 1) ([1, 2].map (Value.int .i64)) 3 := by rw [← hW]; (repeat first | (refine Blk.newAt _ _ _ ?_; first | rfl | (simp only [World.size_alloc]; done) | (simp only [World.size_alloc]; omega)) | refine Blk.alloc ?_ _)
  have b4 : Blk W3 (w2.heap.size + 1 + 1 + 1) ([1, 2].map (Value.int .i64)) 3 := by rw [← hW]; (repeat first | (refine Blk.newAt _ _ _ ?_; first | rfl | (simp only [World.size_alloc]; done) | (simp only [World.size_alloc]; omega)) | refine Blk.alloc ?_ _)
  have b5 : Blk W3 (w2.heap.size + 1 + 1 + 1 + 1) ([((⟨false, [3], true, 2, [1, 2], [1, 2]⟩ : GR), Value.slice (some ⟨w2.heap.size + 1, 0, none⟩) 1 1, Value.slice (some ⟨w2.heap.size + 1 + 1, 0, none⟩) 2 2, Value.slice (some ⟨w2.heap.size + 1 + 1 + 1, 0, none⟩) 2 2)].flatMap cells6) 54 := by rw [← hW]; (repeat first | (refine Blk.newAt _ _ _ ?_; first | rfl | (simp only [World.size_alloc]; done) | (simp only [World.size_alloc]; omega)) | refine Blk.alloc ?_ _)
  have b6 : Blk W3 (w2.heap.size + 1 + 1 + 1 + 1 + 1) [.int .i64 3, .slice (some ⟨w2.heap.size, 0, none⟩) 3 3, .slice none 0 0, .slice (some ⟨w2.heap.size + 1 + 1 + 1 + 1, 0, none⟩) 1 1, .slice none 0 0] 27 := by rw [← hW]; (repeat first | (refine Blk.newAt _ _ _ ?_; first | rfl | (simp only [World.size_alloc]; done) | (simp only [World.size_alloc]; omega)) | refine Blk.alloc ?_ _)
  have hb3 : Below w2.heap.size w2 W3 := by rw [← hW]; (repeat first | exact Below.refl _ _ | (refine Below.setCell ?_ (by first | omega | (simp; done) | (simp; omega)) _) | (refine bal ?_ _))
  clear hW
  have HQ3 : Hid (BoxP (w2.heap.size + 1 + 1 + 1 + 1 + 1) 3 (.slice (some ⟨w2.heap.size, 0, none⟩) 3 3) (.slice (some ⟨w2.heap.size + 1 + 1 + 1 + 1, 0, none⟩) 1 1) tsumP W3) := Lib.hid ⟨⟨_, _, _, _, rfl, inI_small (by decide), b1.strs (by simp; decide) (by simp), nil_ints _, b5.rules (fun q hq => by
    obtain rfl : q = _ := by simpa using hq
    exact ⟨b2.ints1 (inI_small (by decide)), b3.ints (l := [1, 2]) (fitI (by simp [InI])) (by simp), b4.ints (l := [1, 2]) (fitI (by simp [InI])) (by simp), (by unfold InI; decide : InI 2)⟩) (by simp), nil_mins _⟩, b6⟩
  have kx := HQ3.out.box.cell
  have HL3 := Lib.hid (HL2.out.below hb3)
  have HP3 := Lib.hid (HP2.out.on hb3)
  have HB3 := Lib.hid (bon HB2.out hb3)
  clear b1 b2 b3 b4 b5 b6 hb3 HL2 HP1 HP2 HB1
  go_upto_region 5 with (go_at_call 16; (with_reducible refine (tsum_compl _ _ HQ3.out.prog).mono ?_); rintro e w4 ⟨asu, csu, rfl, ho, hb4⟩; have HS4 := Lib.hid ho; have HL4 := Lib.hid (HL3.out.below hb4); have HP4 := Lib.hid (HP3.out.on hb4); have HB4 := Lib.hid (bon HB3.out hb4); clear ho hb4 kx)
  obtain ⟨bs, os, v0, u0, v1, u1, v2, u2, rfl, hsum⟩ := sum3_of HS4.out
  have HS4 : Hid (A4 w w1.heap.size an nn cn ar nr cr ao co bs os v0 u0 v1 u1 v2 u2 w4) := Lib.hid ⟨HP4.out, HL4.out, hsum, HB4.out⟩
  have kp4 := HP4.out.box.cell
  clear hsum HQ3 HL3 HP3 HP4 HL4 HB4
  go_wp2_with (first
    | (go_at_call 25; (with_reducible refine (smallC_string rfl HS14.out.s.is2 small_t3 st_ct3).mono ?_); rintro e w15 ⟨rfl, hb15⟩; have HS15 := Lib.hid (HS14.out.on hb15); have kp15 := HS15.out.p.box.cell; clear hb15)
    | (go_at_call 25; (with_reducible refine (smallC_string rfl HS13.out.s.is1 small_t2 st_ct2).mono ?_); rintro e w14 ⟨rfl, hb14⟩; have HS14 := Lib.hid (HS13.out.on hb14); have kp14 := HS14.out.p.box.cell; have ka14 := HS14.out.s.at0.1; have kb14 := HS14.out.s.at0.2.1; have kc14 := HS14.out.s.at0.2.2; have kd14 := HS14.out.s.at1.1; have ke14 := HS14.out.s.at1.2.1; have kf14 := HS14.out.s.at1.2.2; have kg14 := HS14.out.s.at2.1; have kh14 := HS14.out.s.at2.2.1; have ki14 := HS14.out.s.at2.2.2; clear hb14)
    | (go_at_call 25; (with_reducible refine (smallC_string rfl HS12.out.s.is0 small_t1 st_ct1).mono ?_); rintro e w13 ⟨rfl, hb13⟩; have HS13 := Lib.hid (HS12.out.on hb13); have kp13 := HS13.out.p.box.cell; have ka13 := HS13.out.s.at0.1; have kb13 := HS13.out.s.at0.2.1; have kc13 := HS13.out.s.at0.2.2; have kd13 := HS13.out.s.at1.1; have ke13 := HS13.out.s.at1.2.1; have kf13 := HS13.out.s.at1.2.2; have kg13 := HS13.out.s.at2.1; have kh13 := HS13.out.s.at2.2.1; have ki13 := HS13.out.s.at2.2.2; clear hb13)
    | (go_at_call 23; (with_reducible refine (sup_two0 _ w11 HS11.out.p.prog).mono ?_); rintro e w12 ⟨rfl, hb12⟩; have HS12 := Lib.hid (HS11.out.on hb12); have kp12 := HS12.out.p.box.cell; have ka12 := HS12.out.s.at0.1; have kb12 := HS12.out.s.at0.2.1; have kc12 := HS12.out.s.at0.2.2; have kd12 := HS12.out.s.at1.1; have ke12 := HS12.out.s.at1.2.1; have kf12 := HS12.out.s.at1.2.2; have kg12 := HS12.out.s.at2.1; have kh12 := HS12.out.s.at2.2.1; have ki12 := HS12.out.s.at2.2.2; clear hb12)
    | (go_at_call 23; (with_reducible refine (sup_two1 _ _ _ (HS10.out.alloc _).p.prog ints_one).mono ?_); rintro e w11 ⟨rfl, hb11⟩; have HS11 := Lib.hid ((HS10.out.alloc _).on hb11); have kp11 := HS11.out.p.box.cell; clear hb11)
    | (go_at_call 20; (with_reducible refine (bits_two _ _ _ (HE.out.below (bal (Below.refl w9.heap.size w9) _)) bytes_two).mono ?_); rintro e w10 ⟨rfl, hb10⟩; have HS10 := Lib.hid ((HS9.out.alloc _).on hb10); have kp10 := HS10.out.p.box.cell; clear hb10)
    | (go_at_call 21; (with_reducible refine (ext_two _ _ _ (HS8.out.alloc _).p.prog ints_one).mono ?_); rintro e w9 ⟨ax, nx, cx, rfl, he, hb9⟩; have HE := Lib.hid he; have HS9 := Lib.hid ((HS8.out.alloc _).on hb9); have kp9 := HS9.out.p.box.cell; clear hb9 he)
    | (go_at_call 49; (with_reducible refine (strings_two _ _ _ (HT.out.below (bal (Below.refl w7.heap.size w7) _)) strs_two).mono ?_); rintro e w8 ⟨rfl, hb8⟩; have HS8 := Lib.hid ((HS7.out.alloc _).on hb8); have kp8 := HS8.out.p.box.cell; clear hb8)
    | (go_at_call 50; (with_reducible refine (texts_two _ w6 HS6.out.l).mono ?_); rintro e w7 ⟨at', nt, ct, rfl, ht, hb7⟩; have HT := Lib.hid ht; have HS7 := Lib.hid (HS6.out.on hb7); have kp7 := HS7.out.p.box.cell; clear hb7 ht)
    | (go_at_call 19; (with_reducible refine (body_any _ twoP w5 HS5.out.p.prog 1 (inI_small (by decide))).mono ?_); rintro e w6 ⟨e6, hb6⟩; rw [two_body] at e6; subst e6; have HS6 := Lib.hid (HS5.out.on hb6); have kp6 := HS6.out.p.box.cell; clear hb6)
    | (go_at_call 18; (with_reducible refine (varsI_any _ twoP w4 HS4.out.p.prog).mono ?_); rintro e w5 ⟨e5, hb5⟩; rw [two_vars] at e5; subst e5; have HS5 := Lib.hid (HS4.out.on hb5); have kp5 := HS5.out.p.box.cell; clear hb5))
  go_ret
  exact ⟨rfl, HS15.out.b⟩

end Go.Proofs.YtfhpfbakoiekpaaGreatDoor

/- How the arguments of the statements read: from the claim's form to this folder's predicates. -/
namespace Go.Proofs.YtfhpfbakoiekpaaGreatDoor
open Go.RowKit

theorem list_of {α : Type} (d : α) {Q : Nat → α → Prop} : ∀ (n : Nat), (∀ i, i < n → ∃ x, Q i x) → ∃ l : List α, l.length = n ∧ ∀ i, i < n → Q i (l.getD i d)
  | 0, _ => ⟨[], rfl, fun i hi => absurd hi (Nat.not_lt_zero _)⟩
  | n + 1, h => by
    obtain ⟨l, hl, hq⟩ := list_of d n (fun i hi => h i (by omega))
    obtain ⟨x, hx⟩ := h n (by omega)
    refine ⟨l ++ [x], by simp [hl], fun i hi => ?_⟩
    by_cases e : i < n
    · have := hq i e
      rw [List.getD_eq_getElem?_getD, List.getElem?_append_left (by omega), ← List.getD_eq_getElem?_getD]
      exact this
    · obtain rfl : i = n := by omega
      rw [List.getD_eq_getElem?_getD, List.getElem?_append_right (by omega)]
      simp [hl, hx]

section
variable {H : Type} {enc : TypeId × Value → H} {P : Program} {w : World}

/-- The cells of one value in memory read as a datum whose parts are within the reach. -/
def Reads (enc : TypeId × Value → H) (P : Program) (w : World) (t : TypeId) (cs : List Value) : Prop :=
  ∃ fuel y, DataW.trod enc P w 0 (fun _ => true) true fuel t cs = some y ∧ ∀ m ∈ y.1.weights P t, m ≤ reachBytes

theorem cells_at {a : Addr} {n : Nat} {cs : List Value} (h : w.cells? 0 a n = some cs) : cs.length = n ∧ ∀ j, j < n → w.cell? (a.add j) = cs[j]? := by
  unfold World.cells? at h
  rw [if_pos (Nat.zero_le _)] at h
  refine ⟨by simpa using mapM_some_length h, fun j hj => ?_⟩
  exact mapM_some_get h j j (by simp [hj])

theorem weightsAll_mem {e : TypeId} : ∀ {l : List (DataW H)} {i : Nat} {d : DataW H}, l[i]? = some d → ∀ m ∈ d.weights P e, m ∈ DataW.weightsAll P e l
  | [], i, d, h, m, hm => by simp at h
  | x :: l, 0, d, h, m, hm => by
    simp only [List.getElem?_cons_zero, Option.some.injEq] at h
    subst h
    unfold DataW.weightsAll
    exact List.mem_append.2 (.inl hm)
  | x :: l, i + 1, d, h, m, hm => by
    simp only [List.getElem?_cons_succ] at h
    unfold DataW.weightsAll
    exact List.mem_append.2 (.inr (weightsAll_mem h m hm))

theorem open_slc {t e : TypeId} {sz byt : Nat} {cs : List Value} (ht : P.underlying t = some (.slice e)) (hc : P.cellsOf e = sz) (hs : 1 ≤ sz) (hb : P.bytesOf e = byt) (h : Reads enc P w t cs) :
    ∃ a n cap, cs = [.slice a n cap] ∧ n ≤ cap ∧ cap ≤ maxLen ∧ n * byt ≤ 140737488351232 ∧
      (0 < n → ∃ b off, a = some ⟨b, off, none⟩ ∧ b < w.heap.size ∧ ∀ i, i < n → ∃ cs', cs'.length = sz ∧ (∀ j, j < sz → w.cell? ⟨b, off + i * sz + j, none⟩ = cs'[j]?) ∧ Reads enc P w e cs') := by
  obtain ⟨fuel, y, hy, hw⟩ := h
  rcases DataW.trod_slice ht hy with ⟨rfl, rfl⟩ | ⟨a, len, cap, elems, rest, n, rfl, rfl, rfl, -, hl, hm, hlen, hel, -, -⟩
  · exact ⟨none, 0, 0, rfl, Nat.le_refl _, by unfold maxLen; omega, by omega, fun h => absurd h (Nat.lt_irrefl _)⟩
  · have hws : ∀ m, m ∈ DataW.weights P t (.slice (elems.map (·.1)) (rest.map (·.1))) ↔ m = ((elems.map (·.1)).length + (rest.map (·.1)).length) * P.bytesOf e ∨ m ∈ DataW.weightsAll P e (elems.map (·.1)) ∨ m ∈ DataW.weightsAll P e (rest.map (·.1)) := by
      intro m; simp only [DataW.weights, ht, List.mem_cons, List.mem_append]
    have hbig := hw _ ((hws _).2 (.inl rfl))
    simp only [List.length_map, hlen, hb] at hbig
    have hreach : reachBytes = 140737488351232 := by decide
    refine ⟨some a, len, cap, rfl, hl, hm, ?_, fun hp => ?_⟩
    · have : len * byt ≤ (len + rest.length) * byt := Nat.mul_le_mul_right _ (by omega)
      omega
    · obtain ⟨b, off, spot⟩ := a
      have each : ∀ i, i < len → ∃ cs' y, w.cells? 0 ((⟨b, off, spot⟩ : Addr).add (i * P.cellsOf e)) (P.cellsOf e) = some cs' ∧ DataW.trod enc P w 0 (fun _ => true) true n e cs' = some y ∧ elems[i]? = some y := fun i hi => by
        have h1 := hel i hi
        rw [List.getElem?_eq_getElem (by omega)] at h1
        obtain ⟨cs', h2, h3⟩ := Option.bind_eq_some_iff.1 h1
        exact ⟨cs', _, h2, h3, List.getElem?_eq_getElem (by omega)⟩
      have hspot : spot = none := by
        obtain ⟨cs', y, h1, -, -⟩ := each 0 hp
        rw [Nat.zero_mul, hc] at h1
        obtain ⟨h2, h3⟩ := cells_at h1
        have h4 := h3 0 (by omega)
        rw [List.getElem?_eq_getElem (by omega)] at h4
        simpa [Addr.add] using World.cell?_spot h4
      subst hspot
      have add : ∀ (x : Nat) (o : Nat), ((⟨b, x, none⟩ : Addr).add o) = ⟨b, x + o, none⟩ := fun x o => by unfold Addr.add; split <;> simp_all
      refine ⟨b, off, rfl, ?_, fun i hi => ?_⟩
      · obtain ⟨cs', y, h1, -, -⟩ := each 0 hp
        rw [Nat.zero_mul, hc] at h1
        obtain ⟨h2, h3⟩ := cells_at h1
        have h4 := h3 0 (by omega)
        rw [List.getElem?_eq_getElem (by omega)] at h4
        refine Classical.byContradiction fun hn => ?_
        have : w.heap[b]? = none := Array.getElem?_eq_none (by omega)
        simp [World.cell?, Addr.add, this] at h4
      · obtain ⟨cs', y, h1, h2, h3⟩ := each i hi
        rw [hc] at h1
        obtain ⟨h4, h5⟩ := cells_at h1
        refine ⟨cs', h4, fun j hj => ?_, n, y, h2, fun m hm => hw m ((hws m).2 (.inr (.inl ?_)))⟩
        · have := h5 j hj
          rw [add, add] at this
          exact this
        · exact weightsAll_mem (i := i) (by simp [h3]) m hm

theorem open_int1 {t : TypeId} {k : IntKind} {cs : List Value} (ht : P.underlying t = some (.int k)) (h : Reads enc P w t cs) : ∃ n, cs = [.int k n] ∧ (Lit.int k n).wf = true := by
  obtain ⟨fuel, y, hy, -⟩ := h
  obtain ⟨n, h1, -, h2⟩ := DataW.trod_int ht hy
  exact ⟨n, h1, h2⟩

theorem open_bool1 {t : TypeId} {cs : List Value} (ht : P.underlying t = some .bool) (h : Reads enc P w t cs) : ∃ b, cs = [.bool b] := by
  obtain ⟨fuel, y, hy, -⟩ := h
  obtain ⟨n, h1, -⟩ := DataW.trod_bool ht hy
  exact ⟨n, h1⟩

theorem open_str1 {t : TypeId} {cs : List Value} (ht : P.underlying t = some .string) (h : Reads enc P w t cs) : ∃ s, cs = [.string s] ∧ s.size ≤ 140737488351232 := by
  obtain ⟨fuel, y, hy, hw⟩ := h
  obtain ⟨s, h1, h2, -⟩ := DataW.trod_string ht hy
  subst h2
  refine ⟨s, h1, ?_⟩
  have := hw s.data.toList.length (by simp [DataW.weights])
  have hreach : reachBytes = 140737488351232 := by decide
  rw [hreach] at this
  simpa using this

/-- A field of a struct. -/
theorem open_fld {t : TypeId} {fs : Array Field} {cs : List Value} (ht : P.underlying t = some (.struct fs)) (h : Reads enc P w t cs) {i : Nat} {f : Field} (hf : fs[i]? = some f) : cs.length = P.cellsOf t ∧ Reads enc P w f.type ((cs.drop f.offset).take (P.cellsOf f.type)) := by
  obtain ⟨fuel, y, hy, hw⟩ := h
  obtain ⟨xs, n, rfl, rfl, hl, hx, hel⟩ := DataW.trod_struct ht hy
  refine ⟨hl, n, ?_⟩
  have h1 := hel i f hf
  have hi : i < fs.size := (Array.getElem?_eq_some_iff.1 hf).1
  rw [List.getElem?_eq_getElem (by omega)] at h1
  refine ⟨_, h1, fun m hm => hw m ?_⟩
  simp only [DataW.weights, ht]
  exact DataW.weights_mem_each (j := i) (t := f.type) (d := (xs[i]'(by omega)).1) (by simp [hf]) (by simp [List.getElem?_eq_getElem (show i < xs.length by omega)]) m hm
end

theorem open_at {H : Type} {enc : TypeId × Value → H} {P : Program} {w : World} {t : TypeId} {fs : Array Field} {cs : List Value} (ht : P.underlying t = some (.struct fs)) (h : Reads enc P w t cs) (i ty off n : Nat)
    (hf : (fs[i]?).map (fun f => (f.type, f.offset)) = some (ty, off)) (hn : P.cellsOf ty = n) : Reads enc P w ty ((cs.drop off).take n) := by
  obtain ⟨f, h1, h2⟩ := Option.map_eq_some_iff.1 hf
  simp only [Prod.mk.injEq] at h2
  obtain ⟨rfl, rfl⟩ := h2
  subst hn
  exact (open_fld ht h h1).2

theorem open_len {H : Type} {enc : TypeId × Value → H} {P : Program} {w : World} {t : TypeId} {fs : Array Field} {cs : List Value} (ht : P.underlying t = some (.struct fs)) (h : Reads enc P w t cs) : cs.length = P.cellsOf t := by
  obtain ⟨fuel, y, hy, hw⟩ := h
  obtain ⟨xs, n, rfl, rfl, hl, hx, hel⟩ := DataW.trod_struct ht hy
  exact hl

section
variable {H : Type} {enc : TypeId × Value → H} {w : World}

theorem wf_i64 {n : Int} (h : (Lit.int .i64 n).wf = true) : -9223372036854775808 ≤ n ∧ n ≤ 9223372036854775807 := by
  have := bounds_i64 h; omega
theorem open_Ints {cs : List Value} (h : Reads enc Tryz.prog w 23 cs) : ∃ v l, cs = [v] ∧ Ints w v l := by
  obtain ⟨a, n, cap, rfl, h1, h2, h3, h4⟩ := open_slc (sz := 1) (byt := 8) Tryz.underlying23 (by kernel_rfl) (Nat.le_refl _) (by kernel_rfl) h
  by_cases hp : 0 < n
  · obtain ⟨b, off, rfl, hb, hel⟩ := h4 hp
    obtain ⟨l, hl, hq⟩ := list_of (0 : Int) (Q := fun i z => w.cell? ⟨b, off + i, none⟩ = some (.int .i64 z) ∧ InI z) n (fun i hi => by
      obtain ⟨cs', h5, h6, h7⟩ := hel i hi
      obtain ⟨z, rfl, hz⟩ := open_int1 Tryz.underlying3 h7
      have := h6 0 (by omega)
      simp only [Nat.mul_one, Nat.add_zero, List.getElem?_cons_zero] at this
      exact ⟨z, this, wf_i64 hz⟩)
    refine ⟨_, l, rfl, ⟨_, cap, by rw [hl], by omega, h2, by omega, fun _ => ⟨b, off, rfl, hb, fun i hi => (hq i (by omega)).1⟩⟩, fun i => ?_⟩
    by_cases hi : i < n
    · exact (hq i hi).2
    · have : ix l i = 0 := by unfold ix; rw [List.getD_eq_getElem?_getD, List.getElem?_eq_none (by omega)]; rfl
      rw [this]; omega
  · obtain rfl : n = 0 := by omega
    exact ⟨_, [], rfl, ⟨a, cap, rfl, h1, h2, by simp, fun h => absurd h (by simp)⟩, fun i => by simp [ix]⟩

theorem open_Strs {cs : List Value} (h : Reads enc Tryz.prog w 22 cs) : ∃ v l, cs = [v] ∧ Strs w v l := by
  obtain ⟨a, n, cap, rfl, h1, h2, h3, h4⟩ := open_slc (sz := 1) (byt := 16) Tryz.underlying22 (by kernel_rfl) (Nat.le_refl _) (by kernel_rfl) h
  have hempty : (ixS [] 0).size ≤ 140737488351232 := by decide
  by_cases hp : 0 < n
  · obtain ⟨b, off, rfl, hb, hel⟩ := h4 hp
    obtain ⟨l, hl, hq⟩ := list_of (⟨#[]⟩ : ByteArray) (Q := fun i z => w.cell? ⟨b, off + i, none⟩ = some (.string z) ∧ z.size ≤ 140737488351232) n (fun i hi => by
      obtain ⟨cs', h5, h6, h7⟩ := hel i hi
      obtain ⟨z, rfl, hz⟩ := open_str1 Tryz.underlying9 h7
      have := h6 0 (by omega)
      simp only [Nat.mul_one, Nat.add_zero, List.getElem?_cons_zero] at this
      exact ⟨z, this, hz⟩)
    refine ⟨_, l, rfl, ⟨_, cap, by rw [hl], by omega, h2, by omega, fun _ => ⟨b, off, rfl, hb, fun i hi => (hq i (by omega)).1⟩⟩, fun i => ?_⟩
    by_cases hi : i < n
    · exact (hq i hi).2
    · have : ixS l i = ⟨#[]⟩ := by unfold ixS; rw [List.getD_eq_getElem?_getD, List.getElem?_eq_none (by omega)]; rfl
      rw [this]; exact hempty
  · obtain rfl : n = 0 := by omega
    exact ⟨_, [], rfl, ⟨a, cap, rfl, h1, h2, by simp, fun h => absurd h (by simp)⟩, fun i => by simpa [ixS] using hempty⟩

theorem six {cs : List Value} (h : cs.length = 6) : ∃ a b c d e f, cs = [a, b, c, d, e, f] := by
  match cs, h with
  | [a, b, c, d, e, f], _ => exact ⟨a, b, c, d, e, f, rfl⟩
theorem five {cs : List Value} (h : cs.length = 5) : ∃ a b c d e, cs = [a, b, c, d, e] := by
  match cs, h with
  | [a, b, c, d, e], _ => exact ⟨a, b, c, d, e, rfl⟩
theorem three {cs : List Value} (h : cs.length = 3) : ∃ a b c, cs = [a, b, c] := by
  match cs, h with
  | [a, b, c], _ => exact ⟨a, b, c, rfl⟩

theorem cellsRule : Tryz.prog.cellsOf 54 = 6 := by kernel_rfl
theorem cellsMin : Tryz.prog.cellsOf 83 = 3 := by kernel_rfl
theorem cellsProg : Tryz.prog.cellsOf 27 = 5 := by kernel_rfl
theorem cellsI : Tryz.prog.cellsOf 3 = 1 := by kernel_rfl
theorem cellsB : Tryz.prog.cellsOf 4 = 1 := by kernel_rfl
theorem cellsIs : Tryz.prog.cellsOf 23 = 1 := by kernel_rfl
theorem cellsSs : Tryz.prog.cellsOf 22 = 1 := by kernel_rfl
theorem cellsRs : Tryz.prog.cellsOf 24 = 1 := by kernel_rfl
theorem cellsMs : Tryz.prog.cellsOf 25 = 1 := by kernel_rfl
theorem open_Rule {cs : List Value} (h : Reads enc Tryz.prog w 54 cs) : ∃ (r : GR) (vh vb vw : Value), cs = [.bool r.choice, vh, .bool r.sum, .int .i64 r.bound, vb, vw] ∧ RuleSl w r vh vb vw := by
  have hl := open_len Tryz.underlying54 h
  have f0 := open_at Tryz.underlying54 h 0 4 0 1 rfl cellsB
  have f1 := open_at Tryz.underlying54 h 1 23 1 1 rfl cellsIs
  have f2 := open_at Tryz.underlying54 h 2 4 2 1 rfl cellsB
  have f3 := open_at Tryz.underlying54 h 3 3 3 1 rfl cellsI
  have f4 := open_at Tryz.underlying54 h 4 23 4 1 rfl cellsIs
  have f5 := open_at Tryz.underlying54 h 5 23 5 1 rfl cellsIs
  rw [cellsRule] at hl
  obtain ⟨c0, c1, c2, c3, c4, c5, rfl⟩ := six hl
  simp only [List.drop_succ_cons, List.drop_zero, List.take_succ_cons, List.take_zero] at f0 f1 f2 f3 f4 f5
  obtain ⟨b0, h0⟩ := open_bool1 Tryz.underlying4 f0
  obtain ⟨v1, l1, h1, g1⟩ := open_Ints f1
  obtain ⟨b2, h2⟩ := open_bool1 Tryz.underlying4 f2
  obtain ⟨n3, h3, g3⟩ := open_int1 Tryz.underlying3 f3
  obtain ⟨v4, l4, h4, g4⟩ := open_Ints f4
  obtain ⟨v5, l5, h5, g5⟩ := open_Ints f5
  simp only [List.cons.injEq, and_true] at h0 h1 h2 h3 h4 h5
  subst h0 h1 h2 h3 h4 h5
  exact ⟨⟨b0, l1, b2, n3, l4, l5⟩, _, _, _, rfl, g1, g4, g5, wf_i64 g3⟩

theorem open_Min {cs : List Value} (h : Reads enc Tryz.prog w 83 cs) : ∃ (m : GM) (vl vw : Value), cs = [.int .i64 m.level, vl, vw] ∧ MinSl w m vl vw := by
  have hl := open_len Tryz.underlying83 h
  have f0 := open_at Tryz.underlying83 h 0 3 0 1 rfl cellsI
  have f1 := open_at Tryz.underlying83 h 1 23 1 1 rfl cellsIs
  have f2 := open_at Tryz.underlying83 h 2 23 2 1 rfl cellsIs
  rw [cellsMin] at hl
  obtain ⟨c0, c1, c2, rfl⟩ := three hl
  simp only [List.drop_succ_cons, List.drop_zero, List.take_succ_cons, List.take_zero] at f0 f1 f2
  obtain ⟨n0, h0, g0⟩ := open_int1 Tryz.underlying3 f0
  obtain ⟨v1, l1, h1, g1⟩ := open_Ints f1
  obtain ⟨v2, l2, h2, g2⟩ := open_Ints f2
  simp only [List.cons.injEq, and_true] at h0 h1 h2
  subst h0 h1 h2
  exact ⟨⟨n0, l1, l2⟩, _, _, rfl, g1, g2, wf_i64 g0⟩

theorem open_Rules {cs : List Value} (h : Reads enc Tryz.prog w 24 cs) : ∃ v l, cs = [v] ∧ RulesIs w v l := by
  obtain ⟨a, n, cap, rfl, h1, h2, h3, h4⟩ := open_slc (sz := 6) (byt := 96) Tryz.underlying24 cellsRule (by omega) (by kernel_rfl) h
  by_cases hp : 0 < n
  · obtain ⟨b, off, rfl, hb, hel⟩ := h4 hp
    obtain ⟨l, hl, hq⟩ := list_of ((default : GR), nilS, nilS, nilS) (Q := fun i (q : GR × Value × Value × Value) => (∀ j, j < 6 → w.cell? ⟨b, off + i * 6 + j, none⟩ = some (ruleCell q.1 q.2.1 q.2.2.1 q.2.2.2 j)) ∧ RuleSl w q.1 q.2.1 q.2.2.1 q.2.2.2) n (fun i hi => by
      obtain ⟨cs', h5, h6, h7⟩ := hel i hi
      obtain ⟨r, vh, vb, vw, rfl, hr⟩ := open_Rule h7
      refine ⟨(r, vh, vb, vw), fun j hj => ?_, hr⟩
      rw [h6 j hj]
      rcases (show j = 0 ∨ j = 1 ∨ j = 2 ∨ j = 3 ∨ j = 4 ∨ j = 5 by omega) with rfl | rfl | rfl | rfl | rfl | rfl <;> rfl)
    have hix : ∀ i, i < n → ixR (l.map (·.1)) i = (l.getD i (default, nilS, nilS, nilS)).1 := fun i hi => by
      simp [ixR, List.getD_eq_getElem?_getD, List.getElem?_eq_getElem (show i < l.length by omega)]
    refine ⟨_, l.map (·.1), rfl, fun i => (l.getD i (default, nilS, nilS, nilS)).2.1, fun i => (l.getD i (default, nilS, nilS, nilS)).2.2.1, fun i => (l.getD i (default, nilS, nilS, nilS)).2.2.2,
      ⟨_, cap, by rw [List.length_map, hl], by simp [hl]; omega, h2, by simp [hl]; omega, fun _ => ⟨b, off, rfl, hb, fun i hi j hj => ?_⟩⟩, fun i hi => ?_⟩
    · simp only [List.length_map, hl] at hi
      dsimp only
      rw [hix i hi]
      exact (hq i hi).1 j hj
    · simp only [List.length_map, hl] at hi
      rw [hix i hi]
      exact (hq i hi).2
  · obtain rfl : n = 0 := by omega
    exact ⟨_, [], rfl, fun _ => nilS, fun _ => nilS, fun _ => nilS, ⟨a, cap, rfl, h1, h2, by simp, fun h => absurd h (by simp)⟩, fun i hi => absurd hi (by simp)⟩

theorem open_Mins {cs : List Value} (h : Reads enc Tryz.prog w 25 cs) : ∃ v l, cs = [v] ∧ MinsIs w v l := by
  obtain ⟨a, n, cap, rfl, h1, h2, h3, h4⟩ := open_slc (sz := 3) (byt := 56) Tryz.underlying25 cellsMin (by omega) (by kernel_rfl) h
  by_cases hp : 0 < n
  · obtain ⟨b, off, rfl, hb, hel⟩ := h4 hp
    obtain ⟨l, hl, hq⟩ := list_of ((default : GM), nilS, nilS) (Q := fun i (q : GM × Value × Value) => (∀ j, j < 3 → w.cell? ⟨b, off + i * 3 + j, none⟩ = some (minCell q.1 q.2.1 q.2.2 j)) ∧ MinSl w q.1 q.2.1 q.2.2) n (fun i hi => by
      obtain ⟨cs', h5, h6, h7⟩ := hel i hi
      obtain ⟨r, vl, vw, rfl, hr⟩ := open_Min h7
      refine ⟨(r, vl, vw), fun j hj => ?_, hr⟩
      rw [h6 j hj]
      rcases (show j = 0 ∨ j = 1 ∨ j = 2 by omega) with rfl | rfl | rfl <;> rfl)
    have hix : ∀ i, i < n → ixM (l.map (·.1)) i = (l.getD i (default, nilS, nilS)).1 := fun i hi => by
      simp [ixM, List.getD_eq_getElem?_getD, List.getElem?_eq_getElem (show i < l.length by omega)]
    refine ⟨_, l.map (·.1), rfl, fun i => (l.getD i (default, nilS, nilS)).2.1, fun i => (l.getD i (default, nilS, nilS)).2.2,
      ⟨_, cap, by rw [List.length_map, hl], by simp [hl]; omega, h2, by simp [hl]; omega, fun _ => ⟨b, off, rfl, hb, fun i hi j hj => ?_⟩⟩, fun i hi => ?_⟩
    · simp only [List.length_map, hl] at hi
      dsimp only
      rw [hix i hi]
      exact (hq i hi).1 j hj
    · simp only [List.length_map, hl] at hi
      rw [hix i hi]
      exact (hq i hi).2
  · obtain rfl : n = 0 := by omega
    exact ⟨_, [], rfl, fun _ => nilS, fun _ => nilS, ⟨a, cap, rfl, h1, h2, by simp, fun h => absurd h (by simp)⟩, fun i hi => absurd hi (by simp)⟩

theorem open_Prog {cs : List Value} (h : Reads enc Tryz.prog w 27 cs) : ∃ (p : GP) (vn vs vr vm : Value), cs = [.int .i64 p.n, vn, vs, vr, vm] ∧ ProgSl w p vn vs vr vm := by
  have hl := open_len Tryz.underlying27 h
  have f0 := open_at Tryz.underlying27 h 0 3 0 1 rfl cellsI
  have f1 := open_at Tryz.underlying27 h 1 22 1 1 rfl cellsSs
  have f2 := open_at Tryz.underlying27 h 2 23 2 1 rfl cellsIs
  have f3 := open_at Tryz.underlying27 h 3 24 3 1 rfl cellsRs
  have f4 := open_at Tryz.underlying27 h 4 25 4 1 rfl cellsMs
  rw [cellsProg] at hl
  obtain ⟨c0, c1, c2, c3, c4, rfl⟩ := five hl
  simp only [List.drop_succ_cons, List.drop_zero, List.take_succ_cons, List.take_zero] at f0 f1 f2 f3 f4
  obtain ⟨n0, h0, g0⟩ := open_int1 Tryz.underlying3 f0
  obtain ⟨v1, l1, h1, g1⟩ := open_Strs f1
  obtain ⟨v2, l2, h2, g2⟩ := open_Ints f2
  obtain ⟨v3, l3, h3, g3⟩ := open_Rules f3
  obtain ⟨v4, l4, h4, g4⟩ := open_Mins f4
  simp only [List.cons.injEq, and_true] at h0 h1 h2 h3 h4
  subst h0 h1 h2 h3 h4
  exact ⟨⟨n0, l1, l2, l3, l4⟩, _, _, _, _, rfl, wf_i64 g0, g1, g2, g3, g4⟩

end

end Go.Proofs.YtfhpfbakoiekpaaGreatDoor

/- ostlerlaw26: what the laws of the chapter lean on. -/
namespace Go.Proofs.YtfhpfbakoiekpaaGreatDoor
open Go.RowKit

/-- What a law leans on: its program. -/
structure LwSt (w : World) (p : GP) (vn vs vr vm : Value) (W : World) : Prop where
  box : Blk W w.heap.size [.int .i64 p.n, vn, vs, vr, vm] 27
  prog : ProgIs W (.agg #[.int .i64 p.n, vn, vs, vr, vm]) p
  below : Below w.heap.size w W

theorem LwSt.on {w W W' : World} {p : GP} {vn vs vr vm : Value} (h : LwSt w p vn vs vr vm W) (hb : Below W.heap.size W W') : LwSt w p vn vs vr vm W' := ⟨h.box.below hb, h.prog.below hb, bon h.below hb⟩
theorem LwSt.alloc {w W : World} {p : GP} {vn vs vr vm : Value} (h : LwSt w p vn vs vr vm W) (o : Obj) : LwSt w p vn vs vr vm (W.alloc o) := h.on (bal (Below.refl _ _) _)

theorem LwSt.start {w : World} {p : GP} {vn vs vr vm : Value} (h : ProgIs w (.agg #[.int .i64 p.n, vn, vs, vr, vm]) p) : LwSt w p vn vs vr vm (w.alloc (.cells #[.int .i64 p.n, vn, vs, vr, vm] 27)) := by
  have hal : Below w.heap.size w (w.alloc (.cells #[.int .i64 p.n, vn, vs, vr, vm] 27)) := bal (Below.refl _ _) _
  exact ⟨Blk.new w _ _, h.below hal, hal⟩

end Go.Proofs.YtfhpfbakoiekpaaGreatDoor

/- The state of a Sources object in memory. -/
namespace Go.Proofs.YtfhpfbakoiekpaaGreatDoor
open Go.RowKit

/-- The places of a Sources object, made when the heap had H blocks, done when it had T. -/
structure SP where
  H : Nat
  T : Nat
  b : Nat
  bh : Nat
  bu : Nat
  bf : Nat
  bk : Nat
  vn : Value
  vr : Value
  gh : Int → Option Value
  gu : Int → Option Value
  Rh : Int → List Int
  Ru : Int → List Int
  qh : Nat → Value
  qb : Nat → Value
  qw : Nat → Value

/-- What never turns. -/
structure FixC (s : SP) (p : GP) (w : World) : Prop where
  names : Strs w s.vn p.names
  rulesA : RulesAt w s.vr p.rules s.qh s.qb s.qw
  heads : MapIs (Value.int .i64) w s.bh s.gh
  uses : MapIs (Value.int .i64) w s.bu s.gu
  headRow : ∀ x, Ints w ((s.gh x).getD nilS) (s.Rh x)
  useRow : ∀ x, Ints w ((s.gu x).getD nilS) (s.Ru x)

theorem FixC.rules {s : SP} {p : GP} {w : World} (h : FixC s p w) : RulesIs w s.vr p.rules := ⟨_, _, _, h.rulesA⟩

theorem FixC.cells {s : SP} {p : GP} {w : World} (h : FixC s p w) : ∃ a cap, s.vr = .slice a p.rules.length cap ∧ (0 < p.rules.length → ∃ b off, a = some ⟨b, off, none⟩ ∧ b < w.heap.size ∧ ∀ i, i < p.rules.length → RuleCells w b (off + i * 6) (ixR p.rules i) (s.qh i) (s.qb i) (s.qw i)) := by
  obtain ⟨a, cap, e, h1, hm, h2, h3⟩ := h.rulesA.1
  refine ⟨a, cap, e, fun hp => ?_⟩
  obtain ⟨b, off, e, hl, hc⟩ := h3 hp
  exact ⟨b, off, e, hl, fun i hi => ⟨hc i hi 0 (by omega), hc i hi 1 (by omega), hc i hi 2 (by omega), hc i hi 3 (by omega), hc i hi 4 (by omega), hc i hi 5 (by omega)⟩⟩

section
variable {m : Nat} {s : SP} {p : GP} {F K : Int → Int} {clock : Int} {a : List Int} {w w' : World}

end

end Go.Proofs.YtfhpfbakoiekpaaGreatDoor

/- The plain law of the search: what lose and gain keep, and that what is founded in the end is the least closed set. -/
namespace Go.Proofs.YtfhpfbakoiekpaaGreatDoor
open Go.RowKit

def InHead (p : GP) (i x : Int) : Prop := 0 ≤ i ∧ i < p.rules.length ∧ x ∈ (ixR p.rules i.toNat).head
def InBody (p : GP) (i x : Int) : Prop := 0 ≤ i ∧ i < p.rules.length ∧ x ∈ (ixR p.rules i.toNat).body
def avB (p : GP) (a : List Int) (F K : Int → Int) (i before : Int) : Bool := availB p a F K i.toNat before

/-- What a state of the sources is at all times. -/
def SInv (p : GP) (F K : Int → Int) (clock : Int) : Prop :=
  ∀ x, F x = 0 ∨ (0 < F x ∧ 1 ≤ x ∧ x ≤ p.n ∧ InHead p (F x - 1) x ∧ 1 ≤ K x ∧ K x ≤ clock)

theorem cntF_le (F : Int → Int) : ∀ n, cntF F n ≤ n
  | 0 => Nat.le_refl _
  | n + 1 => by have := cntF_le F n; unfold cntF; split <;> omega

theorem setI_eq (F : Int → Int) (x v : Int) : setI F x v x = v := by simp [setI]
theorem setI_ne (F : Int → Int) {x y : Int} (v : Int) (h : y ≠ x) : setI F x v y = F y := by simp [setI, h]

theorem cntF_set_out (F : Int → Int) (x v : Int) : ∀ n : Nat, (n : Int) < x → cntF (setI F x v) n = cntF F n
  | 0, _ => rfl
  | n + 1, h => by
    unfold cntF
    rw [cntF_set_out F x v n (by omega), setI_ne F v (by omega)]

theorem cntF_up (F : Int → Int) (x v : Int) (h0 : ¬ 0 < F x) (hv : 0 < v) : ∀ n : Nat, 1 ≤ x → x ≤ n → cntF (setI F x v) n = cntF F n + 1
  | 0, h1, h2 => by omega
  | n + 1, h1, h2 => by
    unfold cntF
    by_cases e : x = (n : Int) + 1
    · subst e
      rw [cntF_set_out F _ v n (by omega), setI_eq, if_pos hv, if_neg h0]
    · rw [cntF_up F x v h0 hv n h1 (by omega), setI_ne F v (fun e' => e e'.symm)]
      omega

theorem cntF_down (F : Int → Int) (x : Int) (h0 : 0 < F x) : ∀ n : Nat, 1 ≤ x → x ≤ n → cntF (setI F x 0) n + 1 = cntF F n
  | 0, h1, h2 => by omega
  | n + 1, h1, h2 => by
    unfold cntF
    by_cases e : x = (n : Int) + 1
    · subst e
      rw [cntF_set_out F _ 0 n (by omega), setI_eq, if_neg (by omega), if_pos h0]
    · have := cntF_down F x h0 n h1 (by omega)
      rw [setI_ne F 0 (fun e' => e e'.symm)]
      omega

section avail
variable {p : GP} {a : List Int} {F K F' K' : Int → Int}

theorem avSum_congr {r : GR} {b b' : Int} (h : ∀ l ∈ r.body, holdsB a F K b l = holdsB a F' K' b' l) : ∀ k, k ≤ r.body.length → avSum r a F K b k = avSum r a F' K' b' k
  | 0, _ => rfl
  | k + 1, hk => by
    unfold avSum
    rw [avSum_congr h k (by omega), h (ix r.body k) (by
      have e : ix r.body k = r.body[k] := by simp [ix, List.getD_eq_getElem?_getD, List.getElem?_eq_getElem (show k < r.body.length by omega)]
      rw [e]; exact List.getElem_mem (by omega))]

theorem avB_congr {i b b' : Int} (h : ∀ l ∈ (ixR p.rules i.toNat).body, holdsB a F K b l = holdsB a F' K' b' l) : avB p a F K i b = avB p a F' K' i b' := by
  unfold avB availB
  rw [avSum_congr h _ (Nat.le_refl _)]
  congr 2
  have e : ∀ k, k < (ixR p.rules i.toNat).body.length → holdsB a F K b (ix (ixR p.rules i.toNat).body k) = holdsB a F' K' b' (ix (ixR p.rules i.toNat).body k) := fun k hk => h _ (by
    have e : ix (ixR p.rules i.toNat).body k = (ixR p.rules i.toNat).body[k] := by simp [ix, List.getD_eq_getElem?_getD, List.getElem?_eq_getElem hk]
    rw [e]; exact List.getElem_mem hk)
  unfold allR
  rw [Bool.eq_iff_iff]
  simp only [List.all_eq_true, List.mem_range]
  constructor
  · intro h1 k hk; rw [← e k hk]; exact h1 k hk
  · intro h1 k hk; rw [e k hk]; exact h1 k hk

/-- An atom that is not in the body does not matter. -/
theorem avB_away {i b x u v : Int} (h : x ∉ (ixR p.rules i.toNat).body) : avB p a (setI F x u) (setI K x v) i b = avB p a F K i b :=
  avB_congr fun l hl => by
    have : l ≠ x := fun e => h (e ▸ hl)
    unfold holdsB
    rw [setI_ne F u this, setI_ne K v this]

/-- A new source at the time c does not matter to what was to be founded before. -/
theorem avB_new {i b x u c : Int} (h0 : ¬ 0 < F x) (hb : b ≤ c) : avB p a (setI F x u) (setI K x c) i b = avB p a F K i b :=
  avB_congr fun l hl => by
    unfold holdsB
    by_cases e : l = x
    · subst e
      rw [setI_eq, setI_eq]
      have h1 : decide (c < b) = false := decide_eq_false (by omega)
      have h2 : decide (0 < F l) = false := decide_eq_false h0
      rw [h1, h2]; simp
    · rw [setI_ne F u e, setI_ne K c e]

theorem avB_time {i b b' clock : Int} (h : SInv p F K clock) (hb : clock < b) (hb' : clock < b') : avB p a F K i b = avB p a F K i b' :=
  avB_congr fun l hl => by
    unfold holdsB
    rcases h l with h1 | h1
    · rw [h1]; simp
    · have h2 : decide (K l < b) = true := decide_eq_true (by omega)
      have h3 : decide (K l < b') = true := decide_eq_true (by omega)
      rw [h2, h3]

end avail

/-- lose, under way: 'X' the first atom that has not been asked, R what still is to be asked. -/
structure LI (p : GP) (a : List Int) (F K : Int → Int) (clock : Int) (l : List Int) (X : Int) (R : Int → Int → Prop) : Prop where
  inv : SInv p F K clock
  off : ∀ z, 0 < F z → z < X → offB a z = false
  ok : ∀ z, 0 < F z → avB p a F K (F z - 1) (K z) = true ∨ (∃ y ∈ l, InBody p (F z - 1) y) ∨ R z (F z - 1)
  q : ∀ y ∈ l, 1 ≤ y ∧ y ≤ p.n
  cnt : (cntF F p.n.toNat + l.length : Int) ≤ p.n

section lose
variable {p : GP} {a l : List Int} {F K : Int → Int} {clock X X' : Int} {R R' : Int → Int → Prop}

theorem LI.start (h : SInv p F K clock) (hn : 0 ≤ p.n) : LI p a F K clock [] 1 (fun z _ => 1 ≤ z) := by
  refine ⟨h, fun z hz hx => ?_, fun z hz => .inr (.inr ?_), fun y hy => by simp at hy, ?_⟩
  · rcases h z with h1 | h1 <;> omega
  · rcases h z with h1 | h1 <;> omega
  · have := cntF_le F p.n.toNat; simp; omega

theorem LI.drop (h : LI p a F K clock l X R) (x : Int) (hx : 0 < F x) (hX : ∀ z, z < X' → z ≠ x → z < X) (hR : ∀ z i, z ≠ x → R z i → R' z i) : LI p a (setI F x 0) (setI K x 0) clock (l ++ [x]) X' R' := by
  have hi := h.inv x
  refine ⟨fun z => ?_, fun z hz hzx => ?_, fun z hz => ?_, fun y hy => ?_, ?_⟩
  · by_cases e : z = x
    · subst e; left; rw [setI_eq]
    · rw [setI_ne F 0 e, setI_ne K 0 e]; exact h.inv z
  · have e : z ≠ x := fun e => by subst e; rw [setI_eq] at hz; omega
    rw [setI_ne F 0 e] at hz
    exact h.off z hz (hX z hzx e)
  · have e : z ≠ x := fun e => by subst e; rw [setI_eq] at hz; omega
    rw [setI_ne F 0 e] at hz ⊢
    rw [setI_ne K 0 e]
    by_cases hb : x ∈ (ixR p.rules (F z - 1).toNat).body
    · right; left
      refine ⟨x, by simp, ?_⟩
      rcases h.inv z with h1 | h1
      · omega
      · have := h1.2.2.2.1; exact ⟨this.1, this.2.1, hb⟩
    · rw [avB_away hb]
      rcases h.ok z hz with h1 | ⟨y, h1, h2⟩ | h1
      · exact .inl h1
      · exact .inr (.inl ⟨y, by simp [h1], h2⟩)
      · exact .inr (.inr (hR z _ e h1))
  · simp only [List.mem_append, List.mem_singleton] at hy
    rcases hy with hy | rfl
    · exact h.q y hy
    · omega
  · have h2 := h.cnt
    have h3 := cntF_down F x hx p.n.toNat (by omega) (by omega)
    simp only [List.length_append, List.length_singleton]
    push_cast
    omega

theorem LI.keep (h : LI p a F K clock l X R) (hX : ∀ z, 0 < F z → z < X' → z < X ∨ offB a z = false) (hR : ∀ z, 0 < F z → R z (F z - 1) → avB p a F K (F z - 1) (K z) = true ∨ R' z (F z - 1)) : LI p a F K clock l X' R' := by
  refine ⟨h.inv, fun z hz hzx => ?_, fun z hz => ?_, h.q, h.cnt⟩
  · rcases hX z hz hzx with h1 | h1
    · exact h.off z hz h1
    · exact h1
  · rcases h.ok z hz with h1 | h1 | h1
    · exact .inl h1
    · exact .inr (.inl h1)
    · rcases hR z hz h1 with h2 | h2
      · exact .inl h2
      · exact .inr (.inr h2)

end lose

/-- What lose leaves. -/
structure Lost (p : GP) (a : List Int) (F K : Int → Int) (clock : Int) : Prop where
  inv : SInv p F K clock
  off : ∀ z, 0 < F z → offB a z = false
  ok : ∀ z, 0 < F z → avB p a F K (F z - 1) (K z) = true

theorem LI.done {p : GP} {a : List Int} {F K : Int → Int} {clock X : Int} {R : Int → Int → Prop} (h : LI p a F K clock [] X R) (hX : p.n < X) (hR : ∀ z i, ¬ R z i) : Lost p a F K clock := by
  refine ⟨h.inv, fun z hz => h.off z hz ?_, fun z hz => ?_⟩
  · rcases h.inv z with h1 | h1 <;> omega
  · rcases h.ok z hz with h1 | ⟨y, h1, h2⟩ | h1
    · exact h1
    · simp at h1
    · exact absurd h1 (hR _ _)

/-- gain, under way. -/
structure GI (p : GP) (a : List Int) (F K : Int → Int) (clock C0 : Int) (l : List Int) (R : Int → Int → Prop) : Prop where
  lost : Lost p a F K clock
  cmp : ∀ z i, 1 ≤ z → z ≤ p.n → ¬ 0 < F z → offB a z = false → InHead p i z → avB p a F K i (clock + 1) = false ∨ (∃ y ∈ l, InBody p i y) ∨ R z i
  q : ∀ y ∈ l, 1 ≤ y ∧ y ≤ p.n
  cnt : l.length ≤ cntF F p.n.toNat
  clk : clock ≤ C0 + cntF F p.n.toNat

section gain
variable {p : GP} {a l : List Int} {F K : Int → Int} {clock C0 : Int} {R R' : Int → Int → Prop}

theorem GI.start (h : Lost p a F K clock) : GI p a F K clock clock [] (fun z _ => 1 ≤ z) :=
  ⟨h, fun z i h1 h2 h3 h4 h5 => .inr (.inr h1), fun y hy => by simp at hy, by simp, by omega⟩

theorem GI.push (h : GI p a F K clock C0 l R) (hc : 0 ≤ clock) (x i : Int) (h0 : ¬ 0 < F x) (hx : 1 ≤ x ∧ x ≤ p.n) (ho : offB a x = false) (hi : InHead p i x) (hav : avB p a F K i (clock + 1) = true) (hR : ∀ z j, z ≠ x → R z j → R' z j) :
    GI p a (setI F x (i + 1)) (setI K x (clock + 1)) (clock + 1) C0 (l ++ [x]) R' := by
  have hinv : SInv p (setI F x (i + 1)) (setI K x (clock + 1)) (clock + 1) := fun z => by
    by_cases e : z = x
    · subst e
      rw [setI_eq, setI_eq]
      have := hi.1
      exact .inr ⟨by omega, hx.1, hx.2, by rwa [show i + 1 - 1 = i by omega], by omega, by omega⟩
    · rw [setI_ne F _ e, setI_ne K _ e]
      rcases h.lost.inv z with h1 | h1
      · exact .inl h1
      · exact .inr ⟨h1.1, h1.2.1, h1.2.2.1, h1.2.2.2.1, h1.2.2.2.2.1, by omega⟩
  have hup := cntF_up F x (i + 1) h0 (by have := hi.1; omega) p.n.toNat hx.1 (by omega)
  refine ⟨⟨hinv, fun z hz => ?_, fun z hz => ?_⟩, fun z j h1 h2 h3 h4 h5 => ?_, fun y hy => ?_, ?_, ?_⟩
  · by_cases e : z = x
    · subst e; exact ho
    · rw [setI_ne F _ e] at hz; exact h.lost.off z hz
  · by_cases e : z = x
    · subst e
      rw [setI_eq, setI_eq, avB_new h0 (by omega), show i + 1 - 1 = i by omega]
      exact hav
    · rw [setI_ne F _ e] at hz ⊢
      rw [setI_ne K _ e]
      rcases h.lost.inv z with h1 | h1
      · omega
      · rw [avB_new h0 (by omega)]
        exact h.lost.ok z hz
  · have e : z ≠ x := fun e => by subst e; rw [setI_eq] at h3; have := hi.1; omega
    rw [setI_ne F _ e] at h3
    by_cases hb : x ∈ (ixR p.rules j.toNat).body
    · exact .inr (.inl ⟨x, by simp, h5.1, h5.2.1, hb⟩)
    · rw [avB_away hb, avB_time (b' := clock + 1) h.lost.inv (by omega) (by omega)]
      rcases h.cmp z j h1 h2 h3 h4 h5 with h6 | ⟨y, h6, h7⟩ | h6
      · exact .inl h6
      · exact .inr (.inl ⟨y, by simp [h6], h7⟩)
      · exact .inr (.inr (hR z j e h6))
  · simp only [List.mem_append, List.mem_singleton] at hy
    rcases hy with hy | rfl
    · exact h.q y hy
    · exact hx
  · have := h.cnt
    simp only [List.length_append, List.length_singleton]
    omega
  · have := h.clk
    rw [hup]; push_cast; omega

theorem GI.keep (h : GI p a F K clock C0 l R) (hR : ∀ z i, 1 ≤ z → z ≤ p.n → ¬ 0 < F z → offB a z = false → InHead p i z → R z i → avB p a F K i (clock + 1) = false ∨ R' z i) : GI p a F K clock C0 l R' := by
  refine ⟨h.lost, fun z i h1 h2 h3 h4 h5 => ?_, h.q, h.cnt, h.clk⟩
  rcases h.cmp z i h1 h2 h3 h4 h5 with h6 | h6 | h6
  · exact .inl h6
  · exact .inr (.inl h6)
  · rcases hR z i h1 h2 h3 h4 h5 h6 with h7 | h7
    · exact .inl h7
    · exact .inr (.inr h7)

end gain

/-- What gain leaves. -/
structure Found (p : GP) (a : List Int) (F K : Int → Int) (clock : Int) : Prop where
  lost : Lost p a F K clock
  cmp : ∀ z i, 1 ≤ z → z ≤ p.n → ¬ 0 < F z → offB a z = false → InHead p i z → avB p a F K i (clock + 1) = false

theorem GI.done {p : GP} {a : List Int} {F K : Int → Int} {clock C0 : Int} {R : Int → Int → Prop} (h : GI p a F K clock C0 [] R) (hR : ∀ z i, ¬ R z i) : Found p a F K clock ∧ clock ≤ C0 + cntF F p.n.toNat := by
  refine ⟨⟨h.lost, fun z i h1 h2 h3 h4 h5 => ?_⟩, h.clk⟩
  rcases h.cmp z i h1 h2 h3 h4 h5 with h6 | ⟨y, h6, h7⟩ | h6
  · exact h6
  · simp at h6
  · exact absurd h6 (hR _ _)

/-! ### What still is to be asked, in the two inner loops -/
def R3 (row : List Int) (k : Nat) (_ i : Int) : Prop := ∃ j, k ≤ j ∧ j < row.length ∧ i = ix row j
def R4 (row head : List Int) (k m : Nat) (z i : Int) : Prop := (i = ix row k ∧ ∃ j, m ≤ j ∧ j < head.length ∧ z = ix head j) ∨ ∃ j, k < j ∧ j < row.length ∧ i = ix row j

theorem ix_of_mem {l : List Int} {x : Int} (h : x ∈ l) : ∃ j, j < l.length ∧ x = ix l j := by
  obtain ⟨j, hj, e⟩ := List.mem_iff_getElem.1 h
  exact ⟨j, hj, by simp [ix, List.getD_eq_getElem?_getD, List.getElem?_eq_getElem hj, e]⟩
theorem R4.start {row head : List Int} {k : Nat} {z i : Int} (h : R3 row k z i) (hz : i = ix row k → z ∈ head) : R4 row head k 0 z i := by
  obtain ⟨j, h1, h2, h3⟩ := h
  rcases Nat.eq_or_lt_of_le h1 with rfl | h4
  · obtain ⟨m, h5, h6⟩ := ix_of_mem (hz h3)
    exact .inl ⟨h3, m, Nat.zero_le _, h5, h6⟩
  · exact .inr ⟨j, h4, h2, h3⟩
theorem R4.next {row head : List Int} {k m : Nat} {z i : Int} (h : R4 row head k m z i) : (z = ix head m ∧ i = ix row k) ∨ R4 row head k (m + 1) z i := by
  rcases h with ⟨h1, j, h2, h3, h4⟩ | h1
  · rcases Nat.eq_or_lt_of_le h2 with rfl | h5
    · exact .inl ⟨h4, h1⟩
    · exact .inr (.inl ⟨h1, j, h5, h3, h4⟩)
  · exact .inr (.inr h1)
theorem R4.done {row head : List Int} {k : Nat} {z i : Int} (h : R4 row head k head.length z i) : R3 row (k + 1) z i := by
  rcases h with ⟨h1, j, h2, h3, h4⟩ | ⟨j, h1, h2, h3⟩
  · omega
  · exact ⟨j, h1, h2, h3⟩
theorem R3.done {row : List Int} {z i : Int} : ¬ R3 row row.length z i := by
  rintro ⟨j, h1, h2, h3⟩; omega
theorem R3.start {p : GP} {R : Int → List Int} (h : RowsAt (fun x => decide (0 < x)) (fun i => (ixR p.rules i).body) p.rules.length 0 R) {y z i : Int} (hy : 1 ≤ y) (hb : InBody p i y) : R3 (R y) 0 z i := by
  have hm : i ∈ R y := ((h y).2 i).2 ⟨decide_eq_true (by omega), .inl hb⟩
  obtain ⟨j, h1, h2⟩ := ix_of_mem hm
  exact ⟨j, Nat.zero_le _, h1, h2⟩
end Go.Proofs.YtfhpfbakoiekpaaGreatDoor
