/- My texts Bld, PbS, Awk0, Mk2, PbT, merged. -/
import Derived.Test.YtfhpfbakoiekpaaGreatDoorM10
import Derived.Test.YtfhpfbakoiekpaaGreatDoorM00
import Derived.Deep.DeepCutAuto
import Derived.WalkKit
import Derived.Test.YtfhpfbakoiekpaaGreatDoorM09
import Derived.Test.YtfhpfbakoiekpaaGreatDoorM20
import Derived.Test.YtfhpfbakoiekpaaGreatDoorM15
import Derived.Test.YtfhpfbakoiekpaaGreatDoorM16
import Derived.Shelf.Abstract

/- strings.Builder: copyCheck, WriteString (a builder of the call's own). -/
namespace Go.Proofs.YtfhpfbakoiekpaaGreatDoor
open Go.RowKit

abbrev BAt (B b : Nat) (p : Value) (bs : List Value) (w : World) : Prop := Lib.BuilderAtF 99 5 B b p bs w
abbrev IsB (B b : Nat) (bs : List Value) (w : World) : Prop := Lib.IsBuilderF 99 5 B b bs w

theorem infoB : (Tryz.prog.info? 5).map (fun i => (i.zero, i.size, i.bytes)) = some (some (.int .u8 0), 1, 1) := by kernel_rfl
theorem sizeB : (Tryz.prog.info? 99).map (·.size) = some 2 := by kernel_rfl

set_option maxHeartbeats 1000000 in
set_option maxRecDepth 100000 in
theorem cc_fresh (b : Nat) (w : World) (h0 : w.cell? ⟨b, 0, none⟩ = some (.pointer none)) (hsh : w.shape? b = some (99, 2)) (hfz : w.frozen? ⟨b, 0, none⟩ = false) :
    Calls Tryz.prog 115 #[.pointer (some ⟨b, 0, none⟩)] w fun e w' => e = .returned (.tuple #[]) ∧ w' = w.setCell ⟨b, 0, none⟩ (.pointer (some ⟨b, 0, none⟩)) := by
  obtain ⟨j, hj, hjs⟩ := Option.map_eq_some_iff.1 sizeB
  go_enter Tryz.func115, Tryz.ntmps115
  go_wp2
  rw [Lib.run_to_unsafe w ⟨b, 0, none⟩ Tryz.underlying96 Tryz.underlying146 hj (by rw [hjs]; decide) hsh (Nat.zero_lt_succ 1)]
  simp only [Result.andThen]
  rw [Oper.upon_value]
  go_wp2
  rw [run_callFunc_extern Tryz.func145 (by kernel_rfl) (by kernel_rfl) (by kernel_rfl) (e := Extern.AbiNoEscape.same) (by kernel_rfl)]
  rw [Lib.run_noEscape]
  simp only [Result.andThen]
  rw [Oper.upon_value]
  go_wp2
  rw [Lib.run_from_unsafe w ⟨b, 0, none⟩ Tryz.underlying146 Tryz.underlying96 hj hsh Tryz.Builder_Extra_169.toX72.liesBuilder]
  simp only [Result.andThen]
  rw [Oper.upon_value]
  go_wp2
  go_end0
  exact ⟨rfl, rfl⟩

set_option maxHeartbeats 1000000 in
set_option maxRecDepth 100000 in
theorem cc_used (b : Nat) (w : World) (h0 : w.cell? ⟨b, 0, none⟩ = some (.pointer (some ⟨b, 0, none⟩))) :
    Calls Tryz.prog 115 #[.pointer (some ⟨b, 0, none⟩)] w fun e w' => e = .returned (.tuple #[]) ∧ w' = w := by
  obtain ⟨j, hj, _⟩ := Option.map_eq_some_iff.1 sizeB
  go_enter Tryz.func115, Tryz.ntmps115
  go_wp2
  rw [Lib.run_neq_ptr_same w _ Tryz.underlying96 hj]
  go_wp2
  go_end0
  exact ⟨rfl, rfl⟩

theorem cc_any (B b : Nat) (bs : List Value) (w : World) (h : IsB B b bs w) :
    Calls Tryz.prog 115 #[.pointer (some ⟨b, 0, none⟩)] w fun e w' => e = .returned (.tuple #[]) ∧ (BAt B b (.pointer (some ⟨b, 0, none⟩)) bs w' ∧ Below B w w' ∧ Lib.OthersKept 5 (some b) w w') := by
  rcases h with h | h
  · refine (cc_fresh b w h.cell0 h.shape h.frozen0).mono ?_
    rintro e w' ⟨rfl, rfl⟩
    exact ⟨rfl, h.used _, (Below.refl B w).setCell (p := ⟨b, 0, none⟩) h.1 _, (Lib.OthersKept.refl _ _ w).setCell ⟨b, 0, none⟩ rfl _⟩
  · refine (cc_used b w h.cell0).mono ?_
    rintro e w' ⟨rfl, rfl⟩
    exact ⟨rfl, h, Below.refl B _, Lib.OthersKept.refl _ _ _⟩

set_option maxHeartbeats 2000000 in
set_option maxRecDepth 100000 in
theorem ws_any (B b : Nat) (bs : List Value) (s : ByteArray) (w : World) (h : IsB B b bs w) (hlen : bs.length + s.size ≤ 140737488355328) (hBw : B ≤ w.heap.size) :
    Calls Tryz.prog 72 #[.pointer (some ⟨b, 0, none⟩), .string s] w fun e w' => e = .returned (.tuple #[.int .i64 s.size, .nilIface]) ∧ (BAt B b (.pointer (some ⟨b, 0, none⟩)) (bs ++ Lib.strCells s) w' ∧ Below B w w' ∧ Lib.OthersKept 5 (some b) w w') := by
  obtain ⟨i0, hi, hz0, hz1, hz2⟩ := info_parts infoB
  go_enter Tryz.func72, Tryz.ntmps72
  go_wp2_with (go_at_call 115; refine (cc_any B b bs _ h).mono ?_)
  rintro e w1 ⟨rfl, h1, hb1, hk1⟩
  obtain ⟨hB, v, hbk, hown, hne⟩ := h1
  have c0 : w1.cell? ⟨b, 0, none⟩ = some (.pointer (some ⟨b, 0, none⟩)) := by rw [Lib.cell_of_heap hbk]; rfl
  have c1 : w1.cell? ⟨b, 1, none⟩ = some v := by rw [Lib.cell_of_heap hbk]; rfl
  go_wp2_with (at_builtin; refine Lib.wpList_append_own_stringF _ rfl _ _ 97 9 rfl B 5 i0 Tryz.underlying97 Tryz.underlying9 hi hz0 hz1 hz2 _ _ _ rfl hown s rfl ?c3 ?c4 ?c5 ?_)
  case c3 => unfold maxLen; omega
  case c4 => omega
  case c5 => have := hb1.size; omega
  intro v' w2 hown' hgrow _
  have hlt : b < w1.heap.size := (Array.getElem?_eq_some_iff.1 hbk).1
  have hb2 : w2.heap[b]? = some (.cells #[.pointer (some ⟨b, 0, none⟩), v] 99 (0, 0)) := by
    rw [hgrow.block b hlt (fun e => hne e.symm)]
    exact hbk
  have d0 : w2.cell? ⟨b, 0, none⟩ = some (.pointer (some ⟨b, 0, none⟩)) := by rw [Lib.cell_of_heap hb2]; rfl
  have d1 : w2.cell? ⟨b, 1, none⟩ = some v := by rw [Lib.cell_of_heap hb2]; rfl
  have f1 : w2.frozen? ⟨b, 1, none⟩ = false := Lib.frozen_of_heap hb2 1
  obtain ⟨ao, n', cap, rfl⟩ : ∃ ao n' cap, v' = .slice ao n' cap := by
    rcases hown'.2 with ⟨hv, _⟩ | ⟨g, cap, cur, fz, hv, _⟩
    · exact ⟨_, _, _, hv⟩
    · exact ⟨_, _, _, hv⟩
  go_wp2
  go_ret2
  refine ⟨rfl, ?_, ?_, (hk1.grown hgrow (Lib.ownsRowF_kind hown)).setCell ⟨b, 1, none⟩ rfl _⟩
  · exact Lib.BuilderAtF.put (T := 99) (e := 5) hB hb2 (bs' := bs ++ Lib.strCells s) (by simpa [Lib.strCells_length] using hown') (by decide)
  · exact (hb1.grown hgrow (by have := hb1.size; omega) (fun k hk => (hown.lt k hk).1)).setCell (p := ⟨b, 1, none⟩) hB _

end Go.Proofs.YtfhpfbakoiekpaaGreatDoor

/- pb.String, at small numbers. -/
namespace Go.Proofs.YtfhpfbakoiekpaaGreatDoor
open Go.RowKit Go.Shelf
attribute [local go_sem] Oper.semAt_some

/-- The text of a literal with its coefficient. -/
def itemT (q : Int × Int) : List UInt8 := (Lib.decDigits q.2.toNat ++ [32]) ++ ((if q.1 < 0 then [126] else []) ++ (([120] ++ Lib.decDigits q.1.natAbs) ++ [32]))
def headT (l : List (Int × Int)) : List UInt8 := l.flatMap itemT
def strT (c : PBC) : List UInt8 := headT (c.lits.zip c.coefs) ++ ([62, 61, 32] ++ Lib.decDigits c.bound.toNat)
theorem headT_snoc (l : List (Int × Int)) (q : Int × Int) : headT (l ++ [q]) = headT l ++ itemT q := by simp [headT]

theorem dec_len {n : Nat} (h : n < 100) : (Lib.decDigits n).length ≤ 2 := by
  unfold Lib.decDigits
  split
  · simp
  · have : n / 10 < 10 := by omega
    unfold Lib.decDigits
    rw [dif_pos this]
    simp

theorem itemT_len {q : Int × Int} (h1 : q.1.natAbs < 100) (h2 : 0 ≤ q.2 ∧ q.2 < 100) : (itemT q).length ≤ 8 := by
  have a := dec_len (n := q.2.toNat) (by omega)
  have b := dec_len h1
  unfold itemT
  simp only [List.length_append, List.length_cons, List.length_nil]
  split <;> simp <;> omega

theorem headT_len : ∀ {l : List (Int × Int)}, (∀ q ∈ l, q.1.natAbs < 100 ∧ 0 ≤ q.2 ∧ q.2 < 100) → (headT l).length ≤ 8 * l.length
  | [], _ => by simp [headT]
  | q :: l, h => by
    have a := itemT_len (h q (.head _)).1 (h q (.head _)).2
    have b := headT_len (l := l) (fun x hx => h x (.tail _ hx))
    unfold headT at *
    simp only [List.flatMap_cons, List.length_append, List.length_cons]
    omega

/-- The cells of a text. -/
abbrev bc (l : List UInt8) : List Value := Lib.byteCells l
theorem bc_app (a b : List UInt8) : bc (a ++ b) = bc a ++ bc b := by simp [bc, Lib.byteCells]
theorem bc_str (s : ByteArray) : Lib.strCells s = bc s.data.toList := rfl

theorem parts_any2 (vl vk : Value) (bd : Int) (w : World) (hl : ∃ a n c, vl = .slice a n c) (hk : ∃ a n c, vk = .slice a n c) :
    Calls Tryz.prog 71 #[.agg #[vl, vk, .int .i64 bd]] w fun e w' => e = .returned (.func (.func 114) #[] #[.pointer (some ⟨w.heap.size, 0, none⟩)]) ∧ Below w.heap.size w w' ∧ Blk w' w.heap.size [vl, vk, .int .i64 bd] 30 ∧ w'.heap.size = w.heap.size + 1 := by
  obtain ⟨a1, n1, c1, rfl⟩ := hl
  obtain ⟨a2, n2, c2, rfl⟩ := hk
  have HB : Hid (Below w.heap.size w (w.alloc (.cells #[.slice a1 n1 c1, .slice a2 n2 c2, .int .i64 bd] 30))) := Lib.hid (bal (Below.refl _ _) _)
  have HK := Lib.hid (Blk.new w [.slice a1 n1 c1, .slice a2 n2 c2, .int .i64 bd] 30)
  go_enter Tryz.func71, Tryz.ntmps71
  go_wp2
  go_ret
  exact ⟨rfl, HB.out, HK.out, by simp⟩

/-- The builder in block b under way; cb: the iterator's box; n1: the size at the loop's start. -/
structure StSt (b0 b cb n1 : Nat) (pc : List Value) (w : World) (t : List UInt8) (W : World) : Prop where
  bld : IsB b b (bc t) W
  box : Blk W cb pc 30
  box1 : Blk W b0 pc 30
  below : Below b w W
  size : n1 ≤ W.heap.size

theorem IsB.own {b : Nat} {bs : List Value} {X Y : World} {row : Option Nat} (h : IsB b b bs X) (hg : X.grownBy Y row) (hr : ∀ r, row = some r → ∃ o : Obj, X.heap[r]? = some o ∧ o.isCells = false) : IsB b b bs Y := by
  have key : ∀ p, BAt b b p bs X → BAt b b p bs Y := fun p ⟨h1, v, h2, h3, h4⟩ => by
    have hne : ∀ k (o : Obj), X.heap[k]? = some o → o.isCells = true → row ≠ some k := fun k o hk hc e => by
      obtain ⟨o2, ho, hc2⟩ := hr k e
      rw [hk] at ho
      cases ho
      rw [hc] at hc2
      cases hc2
    refine ⟨h1, v, (hg.block b (Array.getElem?_eq_some_iff.1 h2).1 (fun e => hne b _ h2 rfl e.symm)).trans h2, h3.kept hg ?_, h4⟩
    rcases h3.2 with ⟨rfl, _⟩ | ⟨g, cap, cur, fz, rfl, _, hgg, _⟩
    · exact .inl rfl
    · exact .inr (fun e => hne g _ hgg rfl e.symm)
  exact h.elim (fun x => .inl (key _ x)) (fun x => .inr (key _ x))

theorem StSt.own {b0 b cb n1 B : Nat} {pc : List Value} {w : World} (hB : b ≤ B) {c : PBC} : OwnFrom B (fun (pre : List (PV c)) W => StSt b0 b cb n1 pc w (headT (pvs pre)) W) := fun pre X Y row hs hg hrow => by
  have hr : ∀ r, row = some r → ∃ o : Obj, X.heap[r]? = some o ∧ o.isCells = false := fun r e => (hrow r e).2
  refine ⟨hs.bld.own hg hr, blk_ownP _ _ _ () X Y row hs.box hg hr, blk_ownP _ _ _ () X Y row hs.box1 hg hr, ?_, Nat.le_trans hs.size hg.size⟩
  exact hs.below.trans ⟨hg.os, hg.tape, hg.output, hg.size, fun i hi => hg.block i (by have := hs.bld; rcases this with h | h <;> (have := h.lt; omega)) (fun e => by have := (hrow i e.symm).1; omega)⟩

/-- Behind a writing. -/
theorem StSt.write {b0 b cb : Nat} {pc : List Value} {w W W' : World} {t s : List UInt8} (h : StSt b0 b cb (b + 2) pc w t W) (hcb : cb = b + 1) (hb : b0 < b) (h1 : BAt b b (.pointer (some ⟨b, 0, none⟩)) (bc t ++ bc s) W') (h2 : Below b W W') (h3 : Lib.OthersKept 5 (some b) W W') :
    StSt b0 b cb (b + 2) pc w (t ++ s) W' ∧ Lim (b + 2) [b] W W' ∧ KeepsOthers W W' := by
  have kk : ∀ k c t', Blk W k c t' → k ≠ b → t' ≠ 5 → Blk W' k c t' := fun k c t' hk hne ht => h3 k _ hk (fun e => hne (Option.some.inj e)) (fun c fz e => ht (by cases e; rfl))
  refine ⟨⟨.inr (by rw [bc_app]; exact h1), kk _ _ _ h.box (by omega) (by decide), kk _ _ _ h.box1 (by omega) (by decide), h.below.trans h2, Nat.le_trans h.size h2.size⟩, ⟨h2.os, h2.tape, h2.output, h2.size, fun k hk hs => ?_⟩, ⟨h2.size, fun k o hk hc => h3 k o hk ?_ (fun c fz e => by subst e; cases hc)⟩⟩
  · simp only [List.mem_cons, List.not_mem_nil, or_false] at hs
    rcases Nat.lt_or_ge k b with hlt | hge
    · exact h2.block k hlt
    · obtain rfl : k = cb := by omega
      rw [show W'.heap[k]? = _ from kk _ _ _ h.box hs (by decide), show W.heap[k]? = _ from h.box]
  · intro e
    have := Option.some.inj e
    subst this
    rcases h.bld with ⟨_, v, hb2, _⟩ | ⟨_, v, hb2, _⟩ <;> (rw [hb2] at hk; cases hk; cases hc)

theorem cat_list (a b : List UInt8) : ((⟨a.toArray⟩ : ByteArray) ++ ⟨b.toArray⟩).data.toList = a ++ b := by
  rw [ByteArray.data_append]
  simp

theorem cat3_list (a b c : List UInt8) : (((⟨a.toArray⟩ : ByteArray) ++ ⟨b.toArray⟩) ++ ⟨c.toArray⟩).data.toList = (a ++ b) ++ c := by
  rw [ByteArray.data_append, ByteArray.data_append]
  simp

theorem ws_txt {b0 b cb : Nat} {pc : List Value} {w W : World} {t : List UInt8} (h : StSt b0 b cb (b + 2) pc w t W) (hcb : cb = b + 1) (hb : b0 < b) (s : List UInt8) (S : ByteArray) (hS : S.data.toList = s) (hlen : t.length + s.length ≤ 1000000) :
    Calls Tryz.prog 72 #[.pointer (some ⟨b, 0, none⟩), .string S] W fun e W' => e = .returned (.tuple #[.int .i64 S.size, .nilIface]) ∧ StSt b0 b cb (b + 2) pc w (t ++ s) W' ∧ Lim (b + 2) [b] W W' ∧ KeepsOthers W W' := by
  have hsz : S.size = s.length := by rw [← hS, Array.length_toList]; rfl
  refine (ws_any b b (bc t) S W h.bld (by rw [Lib.byteCells_length, hsz]; omega) (by have := h.size; omega)).mono ?_
  rintro e W' ⟨rfl, h1, h2, h3⟩
  rw [bc_str, hS] at h1
  exact ⟨rfl, h.write hcb hb h1 h2 h3⟩

end Go.Proofs.YtfhpfbakoiekpaaGreatDoor

/- ostlerlaw27.awake: the values. -/
namespace Go.Proofs.YtfhpfbakoiekpaaGreatDoor
open Go.RowKit

def aw : List Int := [1, 1, -1, 1, 1, -1, 1]
def cA : PBC := ⟨[-1, 6], [1, 1], 1⟩
def cB : PBC := ⟨[-2, 6], [1, 1], 1⟩
def cC : PBC := ⟨[-1, -2], [1, 1], 1⟩

theorem aw_make1 : makeP loopP aw [1, 2] 1 = (cA, 0) := by kernel_rfl
theorem aw_make2 : makeP loopP aw [1, 2] 2 = (cB, 0) := by kernel_rfl
theorem aw_make3 : makeP disP [0, 1] [1] 1 = (cC, 0) := by kernel_rfl
theorem aw_unf1 : unfB loopP aw [1, 2] = true := by kernel_rfl
theorem aw_unf2 : unfB disP [0, 1] [1] = true := by kernel_rfl
theorem aw_val1 : validC loopP [1, 2] (clauseP [-1, 3]).1 = true := by kernel_rfl
theorem aw_val2 : validC loopP [1, 2] (clauseP [-1]).1 = false := by kernel_rfl
theorem aw_pv1 : pbV cA = true := by kernel_rfl
theorem aw_pv2 : pbV cB = true := by kernel_rfl
theorem aw_pv3 : pbV cC = true := by kernel_rfl

theorem dec1 : Lib.decDigits 1 = [49] := by unfold Lib.decDigits; rfl
theorem dec2 : Lib.decDigits 2 = [50] := by unfold Lib.decDigits; rfl
theorem dec6 : Lib.decDigits 6 = [54] := by unfold Lib.decDigits; rfl
theorem aw_str1 : strT cA = [49, 32, 126, 120, 49, 32, 49, 32, 120, 54, 32, 62, 61, 32, 49] := by simp [strT, headT, itemT, cA, dec1, dec6]
theorem aw_str2 : strT cB = [49, 32, 126, 120, 50, 32, 49, 32, 120, 54, 32, 62, 61, 32, 49] := by simp [strT, headT, itemT, cB, dec1, dec2, dec6]
theorem aw_str3 : strT cC = [49, 32, 126, 120, 49, 32, 49, 32, 126, 120, 50, 32, 62, 61, 32, 49] := by simp [strT, headT, itemT, cC, dec1, dec2]

end Go.Proofs.YtfhpfbakoiekpaaGreatDoor

/- loops.Make. -/
namespace Go.Proofs.YtfhpfbakoiekpaaGreatDoor
open Go.RowKit Go.Shelf
attribute [local go_sem] Oper.semAt_some

set_option maxHeartbeats 4000000 in
set_option maxRecDepth 100000 in
theorem make_any (vp va vset : Value) (p : GP) (a S : List Int) (u : Int) (w : World) (hP : ProgIs w vp p) (hA : Bytes8 w va a) (hS : Ints w vset S) (hu : InI u) :
    Calls Tryz.prog 7 #[vp, va, vset, .int .i64 u] w fun e w' => ∃ vc, e = .returned (.tuple #[vc, .int .i64 (makeP p a S u).2]) ∧ PBQ w.heap.size w' vc (makeP p a S u).1 ∧ Below w.heap.size w w' := by
  have hP0 := hP
  obtain ⟨vn, vs, vr, vm, rfl, hPS⟩ := hP
  obtain ⟨a1, c1, rfl, -, hl1, -, -⟩ := hPS.rules.form
  obtain ⟨a4, c4, rfl, -, hl4, -, -⟩ := hS.form
  obtain ⟨a9, n9, c9, rfl⟩ : ∃ a9 n9 c9, va = .slice a9 n9 c9 := by obtain ⟨⟨x, y, e, -⟩, -⟩ := hA; exact ⟨_, _, _, e⟩
  have bP := ((Blk.new w [.int .i64 p.n, vn, vs, .slice a1 p.rules.length c1, vm] 27).alloc (.cells #[.slice a9 n9 c9] 28)).alloc (.cells #[.slice none 0 0, .slice none 0 0, .int .i64 0] 30)
  have bA := (Blk.new2 w (.cells #[.int .i64 p.n, vn, vs, .slice a1 p.rules.length c1, vm] 27) [.slice a9 n9 c9] 28).alloc (.cells #[.slice none 0 0, .slice none 0 0, .int .i64 0] 30)
  have bZ := Blk.new ((w.alloc (.cells #[.int .i64 p.n, vn, vs, .slice a1 p.rules.length c1, vm] 27)).alloc (.cells #[.slice a9 n9 c9] 28)) pbZ 30
  have hal : Below w.heap.size w (((w.alloc (.cells #[.int .i64 p.n, vn, vs, .slice a1 p.rules.length c1, vm] 27)).alloc (.cells #[.slice a9 n9 c9] 28)).alloc (.cells #[.slice none 0 0, .slice none 0 0, .int .i64 0] 30)) := bal (bal (bal (Below.refl _ _) _) _) _
  simp only [World.size_alloc] at bZ
  have HP := Lib.hid (hP0.below hal)
  have HA := Lib.hid (hA.below hal)
  have HS := Lib.hid (hS.below hal)
  have HAL := Lib.hid hal
  have BP := Lib.hid bP
  have BA := Lib.hid bA
  have BZ := Lib.hid bZ
  clear hP0 hPS hA hS hal bP bA bZ
  unfold InI at hu
  refine (callsIn_wide (n := 6)).1 ?_
  refine callsIn_of_wp_marks Tryz.func7 rfl trivial ?_ rfl
  simp only [Tryz.ntmps7, List.size_toArray, List.length_cons, List.length_nil, Nat.reduceAdd, Nat.reduceSub, Array.replicate_succ, Array.replicate_zero, List.push_toArray, List.append_toArray, List.nil_append, List.cons_append]
  gi_upto_region 1 with fail
  have kP := BP.out.cell
  have kA := BA.out.cell
  have kZ := BZ.out.cell
  generalize ((w.alloc (.cells #[.int .i64 p.n, vn, vs, .slice a1 p.rules.length c1, vm] 27)).alloc (.cells #[.slice a9 n9 c9] 28)).alloc (.cells #[.slice none 0 0, .slice none 0 0, .int .i64 0] 30) = W3 at *
  cases hun : unfB p a S with
  | false =>
    have HUN := Lib.hid hun
    have HF : Hid (makeP p a S u = (⟨[], [], 0⟩, 2)) := Lib.hid (by unfold makeP; rw [hun]; rfl)
    clear hun
    gi_upto_region 2 with (first | (refine ⟨trivial, ?_⟩; gi_at_call 9; refine (callsIn_wide.2 (unfounded_any _ _ _ p a S W3 HP.out HA.out HS.out)).mono ?_; rintro e w1 ⟨e1, hb1⟩; rw [HUN.out] at e1; subst e1; have HB1 := Lib.hid hb1; clear hb1) | refine ⟨trivial, ?_⟩)
    have kZ1 := (BZ.out.below HB1.out).cell
    have kf1 := (BZ.out.below HB1.out).free
    gi_wp2
    refine ⟨.tuple #[.agg #[.slice none 0 0, .slice none 0 0, .int .i64 0], .int .i64 2], by simp [results, Tryz.f7, go_sem, *], ?_⟩
    have hzZ := BZ.out.lt
    exact ⟨_, by rw [HF.out], by rw [HF.out]; exact ⟨_, _, rfl, QRow.nil _ _, QRow.nil _ _, show InI (0 : Int) from (by unfold InI; omega), Nat.zero_le _, Nat.zero_le _⟩, below3 (bon HAL.out HB1.out) _ (by omega) _ _ _⟩
  | true =>
    by_cases hus : u ∈ S
    · have HUN := Lib.hid hun
      have HUS : Hid (decide (u ∈ S) = true) := Lib.hid (decide_eq_true hus)
      have hv : validE p = 0 ∧ setB' p.n S = true := by
        unfold unfB at hun
        simp only [Bool.and_eq_true, decide_eq_true_eq] at hun
        exact ⟨hun.1, hun.2.1⟩
      have hu2 : 1 ≤ u ∧ u ≤ p.n := by
        obtain ⟨k, hk, e⟩ := mem_ix_iff.1 hus
        have h1 := hv.2
        unfold setB' at h1
        rw [Bool.and_eq_true] at h1
        have := allR_get h1.1 k hk
        unfold setTo at this
        simp only [Bool.and_eq_true, decide_eq_true_eq] at this
        rw [← e]; exact this.1
      have hV := validP hv.1
      have hn := hV.n
      have hr := hV.rules
      have HOK : Hid (∀ k, k < p.rules.length → SUok2 (supAt p S k)) := Lib.hid (fun k hk => ⟨supAt_ok hv.1 S hk, by have := lits_leM (hV.body k hk) hn.1; show (ixR p.rules k).body.length ≤ 8002; omega⟩)
      have HF : Hid (makeP p a S u = clauseP ([-u] ++ reasAll a (supsTo p S p.rules.length))) := Lib.hid (by unfold makeP; rw [hun, decide_eq_true hus]; rfl)
      clear hun hus hv hV
      gi_upto_region 4 with (first | (refine ⟨trivial, ?_⟩; gi_at_call 9; refine (callsIn_wide.2 (unfounded_any _ _ _ p a S W3 HP.out HA.out HS.out)).mono ?_; rintro e w1 ⟨e1, hb1⟩; rw [HUN.out] at e1; subst e1; have HB1 := Lib.hid hb1; clear hb1) | (refine ⟨trivial, ?_⟩; gi_at_call 27; refine (callsIn_wide.2 (contains_any _ S u _ (HS.out.below HB1.out))).mono ?_; rintro e w2 ⟨e2, rfl⟩; rw [HUS.out] at e2; subst e2))
      have hz5 : ((w1.alloc (.cells #[.int .i64 (-u)] 3)).alloc (.cells #[.slice (some ⟨w1.heap.size, 0, none⟩) 1 1] 23)).heap.size = w1.heap.size + 1 + 1 := by simp
      have HZ5 := Lib.hid hz5
      have hb5 := bal (bal HB1.out (.cells #[.int .i64 (-u)] 3)) (.cells #[.slice (some ⟨w1.heap.size, 0, none⟩) 1 1] 23)
      have HB5 := Lib.hid hb5
      have kP5 := (BP.out.below hb5).cell
      have HM5 : Hid (∀ W6, Below (w1.heap.size + 1 + 1) ((w1.alloc (.cells #[.int .i64 (-u)] 3)).alloc (.cells #[.slice (some ⟨w1.heap.size, 0, none⟩) 1 1] 23)) W6 → MkI a (-u) w1 W6.heap.size [] W6) := Lib.hid (fun W6 h => MkI.start (by unfold InI; omega) h)
      clear hz5 hb5
      generalize (w1.alloc (.cells #[.int .i64 (-u)] 3)).alloc (.cells #[.slice (some ⟨w1.heap.size, 0, none⟩) 1 1] 23) = W5 at *
      gi_wp2_with (refine ⟨trivial, ?_⟩; gi_at_call 28; refine (callsIn_wide.2 (supports_any _ _ _ _ _ _ _ _ _ _ _)).mono ?_; rintro e w6 ⟨rfl, hb6, hp6, hs6⟩)
      have HB6 := Lib.hid (bon HB5.out hb6)
      have hsz1 := HB1.out.size
      have hsz5 : w1.heap.size + 2 ≤ W5.heap.size ∧ W5.heap.size ≤ w1.heap.size + 2 := by have := HZ5.out; omega
      have hsz6 := hb6.size
      have hz6 := hs6.lt
      have BA6 := Lib.hid ((BA.out.below HB5.out).below hb6)
      have BZ6 := Lib.hid ((BZ.out.below HB5.out).below hb6)
      have HA6 := Lib.hid (HA.out.below HB6.out)
      have hzA := BA.out.lt
      have hzZ := BZ.out.lt
      have hMI : MkI a (-u) w1 w6.heap.size [] w6 := HM5.out w6 (hb6.mono (by omega))
      have HBw1 := Lib.hid (HB1.out)
      clear kA kZ kP kP5 HM5
      refine wpIn_rangeFunc_ownH rfl (by omega) (gf := 77) (lb := #[.pointer (some ⟨W5.heap.size, 0, none⟩), .pointer (some ⟨W5.heap.size + 1, 0, none⟩)]) rfl trivial (enters_of Tryz.func77 (by kernel_rfl) rfl)
        (sups_stopsR p S W3 w6 vn vs (.slice a1 p.rules.length c1) vm (.slice a4 S.length c4) HP.out HS.out [w1.heap.size, w1.heap.size + 1] _ _ ⟨HB6.out, hp6, hs6⟩ (fun i hi => by simp only [List.mem_cons, List.not_mem_nil, or_false] at hi; omega) ⟨by simp only [List.mem_cons, List.not_mem_nil, or_false]; omega, by simp only [List.mem_cons, List.not_mem_nil, or_false]; omega⟩ HOK.out 5 (by omega))
        (fun h k => h.trans k) (fun W l o o' hl h hc hw => .of_below (belowK_b (w := w6) (Nat.le_refl _) W l o o' hl h hc hw) (Nat.le_refl _)) (Below.refl _ _) (fun _ => rfl)
        (fun pre W => MkI a (-u) w1 w6.heap.size (suw pre) W)
        (fun _ _ _ => False)
        (MkI.ownR (by omega))
        (fun _ _ _ _ _ hs _ _ => hs)
        hMI
        (fun x a' W => ∃ Bx vh vb vw vs9, x.1.1 = .agg #[.bool x.1.2.r.choice, vh, .bool x.1.2.r.sum, .int .i64 x.1.2.r.bound, vb, vw, .int .i64 x.1.2.b, vs9] ∧ (∃ a n c, vh = .slice a n c) ∧ (∃ a n c, vb = .slice a n c) ∧ (∃ a n c, vw = .slice a n c) ∧ (∃ a n c, vs9 = .slice a n c) ∧ Blk W Bx [.bool x.1.2.r.choice, vh, .bool x.1.2.r.sum, .int .i64 x.1.2.r.bound, vb, vw, .int .i64 x.1.2.b, vs9] 63 ∧ a' = { tmps := #[.agg #[.int .i64 p.n, vn, vs, .slice a1 p.rules.length c1, vm], .slice a9 n9 c9, .slice a4 S.length c4, .int .i64 u, .pointer (some ⟨w.heap.size, 0, none⟩), .pointer (some ⟨w.heap.size + 1, 0, none⟩), undef, undef, .pointer (some ⟨w.heap.size + 1 + 1, 0, none⟩), .int .i64 0, .pointer (some ⟨w1.heap.size + 1, 0, none⟩), .pointer (some ⟨Bx, 0, none⟩), .agg #[.int .i64 p.n, vn, vs, .slice a1 p.rules.length c1, vm], .slice a9 n9 c9, .slice a4 S.length c4, .bool true, .bool false, .bool false, .slice a4 S.length c4, .int .i64 u, .bool true, .bool false, .bool false, undef, .int .i64 u, .int .i64 (-u), .slice (some ⟨w1.heap.size, 0, none⟩) 1 1, .agg #[.int .i64 p.n, vn, vs, .slice a1 p.rules.length c1, vm], .slice a4 S.length c4, .func (.func 77) #[] #[.pointer (some ⟨W5.heap.size, 0, none⟩), .pointer (some ⟨W5.heap.size + 1, 0, none⟩)], x.1.1, undef, undef, undef, undef, undef, undef, undef, undef, undef], defers := [] })
        (fun x a' _ X Y row hs hg hr => by obtain ⟨Bx, vh, vb, vw, vs9, h2, f1, f2, f3, f4, h3, h4⟩ := hs; exact ⟨Bx, vh, vb, vw, vs9, h2, f1, f2, f3, f4, blk_own Bx _ _ () X Y row h3 hg (fun r e => (hr r e).2), h4⟩)
        ?assign ?body ?done ?stop
      case assign =>
        rintro l pre x W K hI hK
        obtain ⟨vh, vb, vw, vs9, hx, ⟨x1, x2, x3, rfl⟩, ⟨x4, x5, x6, rfl⟩, ⟨x7, x8, x9, rfl⟩, ⟨y1, y2, y3, rfl⟩⟩ := x.form
        have HX := Lib.hid hx
        have hbn := Blk.new W [.bool x.1.2.r.choice, (.slice x1 x2 x3), .bool x.1.2.r.sum, .int .i64 x.1.2.r.bound, (.slice x4 x5 x6), (.slice x7 x8 x9), .int .i64 x.1.2.b, (.slice y1 y2 y3)] 63
        have HBN := Lib.hid hbn
        have HI := Lib.hid hI
        have hzW : w6.heap.size ≤ W.heap.size := by obtain ⟨v, _, _, _, _, _, h⟩ := hI; exact h
        have HZW := Lib.hid hzW
        dsimp only
        rw [hx]
        clear hx hbn hI hzW
        gi_wp2
        exact hK _ _ ((KeepsOthers.alloc _ _).from _) (.of_below (bal (Below.refl _ _) _) HZW.out) (HI.out.on (bal (Below.refl _ _) _)) ⟨W.heap.size, _, _, _, _, HX.out, ⟨_, _, _, rfl⟩, ⟨_, _, _, rfl⟩, ⟨_, _, _, rfl⟩, ⟨_, _, _, rfl⟩, HBN.out, by rw [HX.out]⟩
      case body =>
        rintro l pre x a' W hl ⟨r, hr⟩ ⟨v, h1, h2, h3, h4, h5, h6⟩ ⟨Bx, vh, vb, vw, vs9, hx, ⟨x1, x2, x3, rfl⟩, ⟨x4, x5, x6, rfl⟩, ⟨x7, x8, x9, rfl⟩, ⟨y1, y2, y3, rfl⟩, bX, rfl⟩ hlt
        obtain ⟨av, nv, cv, rfl⟩ := h2.form
        have hBW : Below W3.heap.size W3 W := HBw1.out.trans (h3.mono hsz1)
        have bA7 := (BA.out.below HBw1.out).same (h3.block (w.heap.size + 1) (by omega))
        have kl : ∀ e : Ext W, e.world.cell? ⟨w1.heap.size + 1, 0, none⟩ = some (.slice av nv cv) := fun e => (bcell e.below _ 0 h1.lt).trans (h1.cell 0)
        have ks : ∀ e : Ext W, ∀ o, e.world.cell? ⟨Bx, o, none⟩ = [Value.bool x.1.2.r.choice, .slice x1 x2 x3, .bool x.1.2.r.sum, .int .i64 x.1.2.r.bound, .slice x4 x5 x6, .slice x7 x8 x9, .int .i64 x.1.2.b, .slice y1 y2 y3][o]? := fun e o => (bcell e.below _ o bX.lt).trans (bX.cell o)
        have ka : ∀ e : Ext W, e.world.cell? ⟨w.heap.size + 1, 0, none⟩ = some (.slice a9 n9 c9) := fun e => (bcell e.below _ 0 bA7.lt).trans (bA7.cell 0)
        have HSU : Hid (SupIs W (.agg #[.bool x.1.2.r.choice, .slice x1 x2 x3, .bool x.1.2.r.sum, .int .i64 x.1.2.r.bound, .slice x4 x5 x6, .slice x7 x8 x9, .int .i64 x.1.2.b, .slice y1 y2 y3]) x.1.2) := Lib.hid (hx ▸ x.2.1.below hBW)
        have HAW := Lib.hid (HA.out.below hBW)
        have HPL : Hid (([-u] ++ reasAll a (suw pre)).length + (reasP x.1.2 a).length ≤ 400000000) := Lib.hid (by
          have e1 := reasP_len x.1.2 a
          have e2 := x.2.2.2
          rw [suw_len] at h4
          omega)
        have HZW := Lib.hid h3.size
        gi_upto_region 6 with fail
        refine wp_region_tailR 4 (fun _ => True) (mkΦ (reasP x.1.2 a)) (fun i => i == 3) (by kernel_rfl) (by kernel_rfl) (by kernel_rfl) (by kernel_rfl) (fun _ _ => trivial) (mkΦ_later _) ?_
        simp only [List.take_succ_cons, List.take_zero, List.drop_succ_cons, List.drop_zero]
        iterate 3 (refine walkP_head (by kernel_rfl) rfl rfl rfl (fun K hK => ?_); go_big_quiet_op; refine hK _ ?_; clear hK K)
        refine walkP_mem rfl rfl (fun wa hba hFa => ?_) (fun v3 lo3 hi3 l3 g3 h3' => ?_)
        · go_simp
          refine (reasons_any _ _ x.1.2 a _ (HSU.out.below hba) x.2.2.1 (HAW.out.below hba)).mono ?_
          rintro e w2 ⟨v, rfl, hi, hb⟩
          obtain ⟨xa, xc, e9, -⟩ := hi.form
          exact ⟨_, rfl, hb, hi, _, _, _, e9⟩
        obtain ⟨_, -, xa, xn, xc, rfl⟩ := h3'
        simp only [Act.put, List.setIfInBounds_toArray, List.set_cons_succ, List.set_cons_zero]
        intro wx hbx hF hI hP
        have f3 := hF _ (.head _)
        obtain ⟨hi3, -⟩ := f3
        refine ⟨rfl, rfl, ?_⟩
        refine wp_appendM (.tmp 31) (.tmp 34) rfl w1.heap.size (.slice av nv cv) (.slice xa xn xc) ([-u] ++ reasAll a (suw pre)) (reasP x.1.2 a) rfl rfl (h2.below hbx) hi3 (by have := HPL.out; omega) (by have := hbx.size; have := HZW.out; omega) ?_
        intro v' w7 hq7 hg7 ho7
        obtain ⟨hb7, hI7, hL7, hK7⟩ := MkI.push (h1.below hbx) (h2.below hbx) (h3.trans (hbx.mono h3.size)) h4 h5 (Nat.le_trans h6 hbx.size) x.2.2.2 hq7 hg7 ho7
        obtain ⟨a8, n8, c8, rfl⟩ := hq7.form
        refine ⟨trivial, rfl, rfl, ?_⟩
        have kc := hb7.cell 0
        have kf := hb7.free 0
        have HI7 := Lib.hid hI7
        have HL7 := Lib.hid ((Lim.of_below hbx h6).trans hL7)
        have HK7 := Lib.hid ((keeps_below hbx).trans hK7)
        clear hI7 hL7 hK7
        simp only [Act.put, List.setIfInBounds_toArray, List.set_cons_succ, List.set_cons_zero]
        go_simp
        exact ⟨rfl, HK7.out, HL7.out, by show MkI a (-u) w1 w6.heap.size (suw (pre ++ [x])) _; rw [suw_snoc]; exact HI7.out⟩
      case done =>
        rintro D xs W hD hS ⟨v, h1, h2, h3, h4, h5, h6⟩ hK
        obtain ⟨av, nv, cv, rfl⟩ := h2.form
        have kl := h1.cell 0
        have hxl := supsTo_len p S p.rules.length
        rw [← hS] at hxl
        have HL := Lib.hid (h2.ints (by omega))
        have HF2 : Hid (makeP p a S u = clauseP ([-u] ++ reasAll a (suw xs))) := Lib.hid (by rw [HF.out, hS])
        have HBW := Lib.hid (((HAL.out.trans (HBw1.out.mono HAL.out.size)).trans (h3.mono (by have := HAL.out.size; omega))))
        have HZW := Lib.hid ((BZ.out.below HBw1.out).same (h3.block (w.heap.size + 1 + 1) (by omega)))
        have hDW : D < W.heap.size := (Array.getElem?_eq_some_iff.1 hK).1
        have HK := Lib.hid hK
        have HDW := Lib.hid hDW
        have hzw : w.heap.size + 1 + 1 < W.heap.size := by omega
        have HZZ := Lib.hid hzw
        clear h1 h2 h3 h4 h5 h6 hS hK hDW hzw HF
        generalize [-u] ++ reasAll a (suw xs) = LL at *
        gi_wp2_with (refine ⟨trivial, ?_⟩; gi_at_call 30; refine (callsIn_wide.2 (clause_any _ _ _ HL.out)).mono ?_; rintro e w8 ⟨vp, rfl, ⟨vl, vk, rfl, hq1, hq2, hq3⟩, hb8⟩; obtain ⟨al, nl, cl, rfl⟩ := hq1.form; obtain ⟨ak, nk, ck, rfl⟩ := hq2.form; have HQ1 := Lib.hid hq1; have HQ2 := Lib.hid hq2; have HQ3 := Lib.hid hq3; have HB8 := Lib.hid hb8; have hz8 := HZW.out.below hb8; have HZ8 := Lib.hid hz8; have kx := hz8.cell; have kf := hz8.free; clear hq1 hq2 hq3 hb8 hz8)
        have hK3 : ((((w8.setCell ⟨w.heap.size + 1 + 1, 0, none⟩ (.slice al nl cl)).setCell ⟨w.heap.size + 1 + 1, 1, none⟩ (.slice ak nk ck)).setCell ⟨w.heap.size + 1 + 1, 2, none⟩ (.int .i64 (clauseP LL).1.bound)).heap[D]? = some (.deferred (some []))) :=
          ((((Below.heap_setCell _ _ _ _ (by show D ≠ w.heap.size + 1 + 1; omega)).trans (Below.heap_setCell _ _ _ _ (by show D ≠ w.heap.size + 1 + 1; omega))).trans (Below.heap_setCell _ _ _ _ (by show D ≠ w.heap.size + 1 + 1; omega))).trans (HB8.out.block D HDW.out)).trans HK.out
        have hzB : Blk (((w8.setCell ⟨w.heap.size + 1 + 1, 0, none⟩ (.slice al nl cl)).setCell ⟨w.heap.size + 1 + 1, 1, none⟩ (.slice ak nk ck)).setCell ⟨w.heap.size + 1 + 1, 2, none⟩ (.int .i64 (clauseP LL).1.bound)) (w.heap.size + 1 + 1) [.slice al nl cl, .slice ak nk ck, .int .i64 (clauseP LL).1.bound] 30 := ((HZ8.out.set 0 _).set 1 _).set 2 _
        have hq1 := row3 HQ1.out (w.heap.size + 1 + 1) HZZ.out (.slice al nl cl) (.slice ak nk ck) (.int .i64 (clauseP LL).1.bound)
        have hq2 := row3 HQ2.out (w.heap.size + 1 + 1) HZZ.out (.slice al nl cl) (.slice ak nk ck) (.int .i64 (clauseP LL).1.bound)
        have hbF := below3 (bon HBW.out HB8.out) (w.heap.size + 1 + 1) (by omega) (.slice al nl cl) (.slice ak nk ck) (.int .i64 (clauseP LL).1.bound)
        refine ⟨by simp, .inl ⟨_, _, rfl, run_takeDeferred hK3, ?_⟩⟩
        generalize ((w8.setCell ⟨w.heap.size + 1 + 1, 0, none⟩ (.slice al nl cl)).setCell ⟨w.heap.size + 1 + 1, 1, none⟩ (.slice ak nk ck)).setCell ⟨w.heap.size + 1 + 1, 2, none⟩ (.int .i64 (clauseP LL).1.bound) = W9 at *
        have hrow : ∀ r, some D = some r → ∃ o : Obj, W9.heap[r]? = some o ∧ o.isCells = false := fun r e => by cases e; exact ⟨_, hK3, rfl⟩
        have kz := (blk_own _ _ _ () W9 _ _ hzB (grownBy_putObj' W9 D (.deferred none)) hrow).cell
        refine ⟨.tuple #[.agg #[.slice al nl cl, .slice ak nk ck, .int .i64 (clauseP LL).1.bound], .int .i64 (clauseP LL).2], by simp [results, Tryz.f7, go_sem, kz], _, by rw [HF2.out], ?_, hbF.trans (belowK_b (w := w) (Nat.le_refl _) W9 D _ _ (by omega) hK3 rfl rfl)⟩
        rw [HF2.out]
        have hzz := HZZ.out
        exact ⟨_, _, rfl, (hq1.ownR (grownBy_putObj' W9 D (.deferred none)) hrow).mono (by omega), (hq2.ownR (grownBy_putObj' W9 D (.deferred none)) hrow).mono (by omega), HQ3.out⟩
      case stop =>
        rintro D c pre W _ _ h _
        exact h.elim
    · have HUN := Lib.hid hun
      have HUS : Hid (decide (u ∈ S) = false) := Lib.hid (decide_eq_false hus)
      have HF : Hid (makeP p a S u = (⟨[], [], 0⟩, 2)) := Lib.hid (by unfold makeP; rw [hun, decide_eq_false hus]; rfl)
      clear hun hus
      gi_upto_region 2 with (first | (refine ⟨trivial, ?_⟩; gi_at_call 9; refine (callsIn_wide.2 (unfounded_any _ _ _ p a S W3 HP.out HA.out HS.out)).mono ?_; rintro e w1 ⟨e1, hb1⟩; rw [HUN.out] at e1; subst e1; have HB1 := Lib.hid hb1; clear hb1) | (refine ⟨trivial, ?_⟩; gi_at_call 27; refine (callsIn_wide.2 (contains_any _ S u _ (HS.out.below HB1.out))).mono ?_; rintro e w2 ⟨e2, rfl⟩; rw [HUS.out] at e2; subst e2))
      have kZ1 := (BZ.out.below HB1.out).cell
      have kf1 := (BZ.out.below HB1.out).free
      gi_wp2
      refine ⟨.tuple #[.agg #[.slice none 0 0, .slice none 0 0, .int .i64 0], .int .i64 2], by simp [results, Tryz.f7, go_sem, *], ?_⟩
      have hzZ := BZ.out.lt
      exact ⟨_, by rw [HF.out], by rw [HF.out]; exact ⟨_, _, rfl, QRow.nil _ _, QRow.nil _ _, show InI (0 : Int) from (by unfold InI; omega), Nat.zero_le _, Nat.zero_le _⟩, below3 (bon HAL.out HB1.out) _ (by omega) _ _ _⟩

end Go.Proofs.YtfhpfbakoiekpaaGreatDoor

/- pb.String: the walk. -/
namespace Go.Proofs.YtfhpfbakoiekpaaGreatDoor
open Go.RowKit Go.Shelf
attribute [local go_sem] Oper.semAt_some

set_option maxHeartbeats 4000000 in
set_option maxRecDepth 100000 in
theorem string_any (v : Value) (c : PBC) (w : World) (h : PBIs w v c) (hv : pbV c = true) (hsm : ∀ q ∈ c.lits.zip c.coefs, q.1.natAbs < 100 ∧ 0 ≤ q.2 ∧ q.2 < 100) (hbs : 0 ≤ c.bound ∧ c.bound < 100) (hln : c.lits.length = c.coefs.length ∧ c.lits.length ≤ 1000) :
    Calls Tryz.prog 25 #[v] w fun e w' => e = .returned (.string ⟨(strT c).toArray⟩) ∧ Below w.heap.size w w' := by
  obtain ⟨vl, vk, rfl, hL, hK, hbd⟩ := h
  obtain ⟨a1, c1, rfl, -, hl1, -, -⟩ := hL.form
  obtain ⟨a2, c2, rfl, -, hl2, -, -⟩ := hK.form
  have hal : Below w.heap.size w (w.alloc (.cells #[.slice a1 c.lits.length c1, .slice a2 c.coefs.length c2, .int .i64 c.bound] 30)) := bal (Below.refl _ _) _
  have HAL := Lib.hid hal
  have HC : Hid (PBIs (w.alloc (.cells #[.slice a1 c.lits.length c1, .slice a2 c.coefs.length c2, .int .i64 c.bound] 30)) (.agg #[.slice a1 c.lits.length c1, .slice a2 c.coefs.length c2, .int .i64 c.bound]) c) := Lib.hid ⟨_, _, rfl, hL.below hal, hK.below hal, hbd⟩
  have BB := Lib.hid (Blk.new w [.slice a1 c.lits.length c1, .slice a2 c.coefs.length c2, .int .i64 c.bound] 30)
  have HL := Lib.hid hL
  have HK := Lib.hid hK
  have HV := Lib.hid hv
  have HSM := Lib.hid hsm
  have hlz : (c.lits.zip c.coefs).length ≤ 1000 := by simp; omega
  have HLN := Lib.hid hln.1
  have hlm := hln.2
  clear hln
  clear hL hK hal hv hsm
  refine (callsIn_wide (n := 6)).1 ?_
  refine callsIn_of_wp_marks Tryz.func25 rfl trivial ?_ rfl
  simp only [Tryz.ntmps25, List.size_toArray, List.length_cons, List.length_nil, Nat.reduceAdd, Nat.reduceSub, Array.replicate_succ, Array.replicate_zero, List.push_toArray, List.append_toArray, List.nil_append, List.cons_append]
  gi_upto_region 1 with fail
  have kB := BB.out.cell
  have hltB := BB.out.lt
  generalize w.alloc (.cells #[.slice a1 c.lits.length c1, .slice a2 c.coefs.length c2, .int .i64 c.bound] 30) = w0 at *
  gi_wp2_with (first
    | (refine ⟨trivial, ?_⟩; gi_at_call 71; refine (callsIn_wide.2 (parts_any2 _ _ _ _ ⟨_, _, _, rfl⟩ ⟨_, _, _, rfl⟩)).mono ?_; rintro e w3 ⟨rfl, hb3, hp3, hs3⟩)
    | (refine ⟨trivial, ?_⟩; gi_at_call 43; refine (callsIn_wide.2 (pbValid_any _ c _ HC.out)).mono ?_; rintro e w1 ⟨e1, hb1⟩; rw [HV.out] at e1; subst e1; have HB1 := Lib.hid hb1; have kB1 := fun o => (bcell hb1 _ o hltB).trans (kB o); have hz1 : w.heap.size < w1.heap.size := (by have := hb1.size; omega); clear hb1))
  have hald := bal (Below.refl w1.heap.size w1) (.cells #[.pointer none, .slice none 0 0] 99)
  have hsz : (w1.alloc (.cells #[.pointer none, .slice none 0 0] 99)).heap.size = w1.heap.size + 1 := by simp
  have hbb := (Blk.new w1 [.pointer none, .slice none 0 0] 99).below hb3
  have HBW := Lib.hid (bon (bon HAL.out HB1.out) (hald.trans (hb3.mono (by omega))))
  have hbox1 := ((BB.out.below HB1.out).below hald).below hb3
  simp only [World.size_alloc] at hp3 hs3
  have HS0 : Hid (StSt w.heap.size w1.heap.size (w1.heap.size + 1) (w1.heap.size + 2) [.slice a1 c.lits.length c1, .slice a2 c.coefs.length c2, .int .i64 c.bound] w1 [] w3) := Lib.hid ⟨.inl ⟨Nat.le_refl _, .slice none 0 0, hbb, World.ownsRowF_nil _ _ _ _, by simp [Value.ownBlock]⟩, hp3, hbox1, hald.trans (hb3.mono (by omega)), by omega⟩
  have hst : PartSt w w3 [w1.heap.size] (w1.heap.size + 1) (.slice a1 c.lits.length c1) (.slice a2 c.coefs.length c2) c.bound := ⟨fun i hi => HBW.out.block i hi, HBW.out.size, hp3⟩
  have hz3 : w3.heap.size = w1.heap.size + 2 := by omega
  have HZ3 := Lib.hid hz3
  clear hz3 hsz hs3 hald hbb hbox1
  refine parts_loop HL.out HK.out HLN.out hst (fun s hs => by simp only [List.mem_cons, List.not_mem_nil, or_false] at hs; omega) (by simp <;> omega) (by omega) rfl rfl
    (fun pre W => StSt w.heap.size w1.heap.size (w1.heap.size + 1) (w1.heap.size + 2) [.slice a1 c.lits.length c1, .slice a2 c.coefs.length c2, .int .i64 c.bound] w1 (headT (pvs pre)) W)
    (fun _ _ _ => False)
    (StSt.own (by have := HZ3.out; omega)) (fun _ _ _ _ _ h _ _ => h)
    HS0.out ?a1 ?assign ?body ?done ?stop
  case assign =>
    intro l x W K hK
    gi_wp2
    exact hK
  case body =>
    rintro l pre x W hI hlt
    have hx := HSM.out x.1 x.2
    have HTL : Hid ((headT (pvs pre)).length ≤ 8000) := Lib.hid (by
      have h1 := headT_len (l := pvs pre) (fun q hq => by
        obtain ⟨y, _, rfl⟩ := List.mem_map.1 hq
        exact HSM.out y.1 y.2)
      rw [pvs_len] at h1
      omega)
    have HI := Lib.hid hI
    have hszW : w1.heap.size + 2 ≤ W.heap.size := hI.size
    clear hI
    obtain ⟨⟨x1, x2⟩, hxm⟩ := x
    dsimp only at hx ⊢
    obtain ⟨k2, rfl⟩ : ∃ k2 : Nat, x2 = k2 := ⟨x2.toNat, by omega⟩
    have hk2 : k2 < 100 := by omega
    obtain ⟨k1, hk1⟩ : ∃ k1 : Nat, x1.natAbs = k1 := ⟨_, rfl⟩
    have HX1 : Hid (-4611686018427387904 ≤ x1 ∧ x1 ≤ 4611686018427387904) := Lib.hid (by omega)
    have HD2 := Lib.hid (dec_len hk2)
    have hk1' : k1 < 100 := by omega
    have HD1 := Lib.hid (dec_len hk1')
    have hd1 := HD1.out
    have hd2 := HD2.out
    by_cases g1 : x1 < 0
    · gi_wp2_with (first
        | (refine ⟨trivial, ?_⟩; gi_at_call 72; (with_reducible refine (CallsIn.inRound l (callsIn_wide.2 (ws_txt HS5.out rfl hz1 ([120] ++ Lib.decDigits k1 ++ [32]) _ (cat3_list [120] (Lib.decDigits k1) [32]) (by have := HTL.out; have := HD2.out; have := HD1.out; simp; omega)))).mono ?_); rintro e W6 ⟨rfl, hs6, hl6, hk6⟩; have HS6 := Lib.hid hs6; have HL6 := Lib.hid hl6; have HK6 := Lib.hid hk6; clear hs6 hl6 hk6)
        | (refine ⟨trivial, ?_⟩; gi_at_call 73; (with_reducible refine (CallsIn.inRound l (callsIn_wide.2 (Tryz.strconv_Itoa_small k1 hk1' _))).mono ?_); rintro e Wi ⟨rfl, rfl⟩)
        | (refine ⟨trivial, ?_⟩; gi_at_call 74; refine (CallsIn.inRound l (callsIn_wide.2 (abs_any x1 HX1.out _))).mono ?_; rintro e Wi ⟨rfl, rfl⟩; rw [hk1])
        | (refine ⟨trivial, ?_⟩; gi_at_call 72; (with_reducible refine (CallsIn.inRound l (callsIn_wide.2 (ws_txt HS4.out rfl hz1 ([126]) _ (rfl) (by have := HTL.out; have := HD2.out; have := HD1.out; simp; omega)))).mono ?_); rintro e W5 ⟨rfl, hs5, hl5, hk5⟩; have HS5 := Lib.hid hs5; have HL5 := Lib.hid hl5; have HK5 := Lib.hid hk5; clear hs5 hl5 hk5)
        | (refine ⟨trivial, ?_⟩; gi_at_call 72; (with_reducible refine (CallsIn.inRound l (callsIn_wide.2 (ws_txt HI.out rfl hz1 (Lib.decDigits k2 ++ [32]) _ (cat_list (Lib.decDigits k2) [32]) (by have := HTL.out; have := HD2.out; have := HD1.out; simp; omega)))).mono ?_); rintro e W4 ⟨rfl, hs4, hl4, hk4⟩; have HS4 := Lib.hid hs4; have HL4 := Lib.hid hl4; have HK4 := Lib.hid hk4; clear hs4 hl4 hk4)
        | (refine ⟨trivial, ?_⟩; gi_at_call 73; (with_reducible refine (CallsIn.inRound l (callsIn_wide.2 (Tryz.strconv_Itoa_small k2 hk2 _))).mono ?_); rintro e Wi ⟨rfl, rfl⟩))
      refine ⟨(HK4.out.trans HK5.out).trans HK6.out, by rw [HZ3.out]; exact (HL4.out.trans HL5.out).trans HL6.out, ?_⟩
      have hfin := HS6.out
      show StSt _ _ _ _ _ _ (headT (pvs (pre ++ [⟨(x1, (k2 : Int)), hxm⟩]))) _
      rw [pvs_snoc, headT_snoc]
      simpa [itemT, g1, hk1, List.append_assoc] using hfin
    · gi_wp2_with (first
        | (refine ⟨trivial, ?_⟩; gi_at_call 72; (with_reducible refine (CallsIn.inRound l (callsIn_wide.2 (ws_txt HS4.out rfl hz1 ([120] ++ Lib.decDigits k1 ++ [32]) _ (cat3_list [120] (Lib.decDigits k1) [32]) (by have := HTL.out; have := HD2.out; have := HD1.out; simp; omega)))).mono ?_); rintro e W6 ⟨rfl, hs6, hl6, hk6⟩; have HS6 := Lib.hid hs6; have HL6 := Lib.hid hl6; have HK6 := Lib.hid hk6; clear hs6 hl6 hk6)
        | (refine ⟨trivial, ?_⟩; gi_at_call 73; (with_reducible refine (CallsIn.inRound l (callsIn_wide.2 (Tryz.strconv_Itoa_small k1 hk1' _))).mono ?_); rintro e Wi ⟨rfl, rfl⟩)
        | (refine ⟨trivial, ?_⟩; gi_at_call 74; refine (CallsIn.inRound l (callsIn_wide.2 (abs_any x1 HX1.out _))).mono ?_; rintro e Wi ⟨rfl, rfl⟩; rw [hk1])
        | (refine ⟨trivial, ?_⟩; gi_at_call 72; (with_reducible refine (CallsIn.inRound l (callsIn_wide.2 (ws_txt HI.out rfl hz1 (Lib.decDigits k2 ++ [32]) _ (cat_list (Lib.decDigits k2) [32]) (by have := HTL.out; have := HD2.out; have := HD1.out; simp; omega)))).mono ?_); rintro e W4 ⟨rfl, hs4, hl4, hk4⟩; have HS4 := Lib.hid hs4; have HL4 := Lib.hid hl4; have HK4 := Lib.hid hk4; clear hs4 hl4 hk4)
        | (refine ⟨trivial, ?_⟩; gi_at_call 73; (with_reducible refine (CallsIn.inRound l (callsIn_wide.2 (Tryz.strconv_Itoa_small k2 hk2 _))).mono ?_); rintro e Wi ⟨rfl, rfl⟩))
      refine ⟨HK4.out.trans HK6.out, by rw [HZ3.out]; exact HL4.out.trans HL6.out, ?_⟩
      have hfin := HS6.out
      show StSt _ _ _ _ _ _ (headT (pvs (pre ++ [⟨(x1, (k2 : Int)), hxm⟩]))) _
      rw [pvs_snoc, headT_snoc]
      unfold itemT
      rw [if_neg (show ¬ x1 < 0 by omega)]
      simpa [hk1, List.append_assoc] using hfin
  case done =>
    rintro D xs W hD hS hI hK
    have HTL : Hid ((headT (pvs xs)).length ≤ 8000) := Lib.hid (by
      have h1 := headT_len (l := pvs xs) (fun q hq => by
        obtain ⟨y, _, rfl⟩ := List.mem_map.1 hq
        exact HSM.out y.1 y.2)
      rw [hS] at h1 ⊢
      omega)
    obtain ⟨kb, hkb⟩ : ∃ kb : Nat, c.bound = kb := ⟨c.bound.toNat, by omega⟩
    have hkb2 : kb < 100 := by omega
    have HDB := Lib.hid (dec_len hkb2)
    have hdb := HDB.out
    have HF : Hid (strT c = headT (pvs xs) ++ ([62, 61, 32] ++ Lib.decDigits kb)) := Lib.hid (by unfold strT; rw [hS, hkb]; rfl)
    have HI := Lib.hid hI
    have kb1 := hI.box1.cell
    rw [hkb] at kb1
    have HK0 := Lib.hid hK
    have HBW1 := Lib.hid (bon HAL.out HB1.out)
    clear hS hI hK hkb
    gi_wp2_with (first
      | (refine ⟨trivial, ?_⟩; gi_at_call 75; refine (callsIn_wide.2 (Tryz.Builder_String_any_k w1.heap.size w1.heap.size _ _ HS4.out.bld (by have := HS4.out.size; omega))).mono ?_; rintro e W5 ⟨rfl, -, hb5, ho5⟩; have HB5 := Lib.hid hb5; have HO5 := Lib.hid ho5; clear hb5 ho5)
      | (refine ⟨trivial, ?_⟩; gi_at_call 72; (with_reducible refine (callsIn_wide.2 (ws_txt HI.out rfl hz1 ([62, 61, 32] ++ Lib.decDigits kb) _ (cat_list [62, 61, 32] (Lib.decDigits kb)) (by have := HTL.out; have := HDB.out; simp; omega))).mono ?_); rintro e W4 ⟨rfl, hs4, hl4, hk4⟩; have HS4 := Lib.hid hs4; have HK4 := Lib.hid hk4; clear hs4 hl4 hk4)
      | (refine ⟨trivial, ?_⟩; gi_at_call 73; (with_reducible refine (callsIn_wide.2 (Tryz.strconv_Itoa_small kb hkb2 _)).mono ?_); rintro e Wi ⟨rfl, rfl⟩))
    have hK4 := HK4.out.2 D _ HK0.out rfl
    have hz3 := HZ3.out
    have hK5 := HO5.out D _ hK4 (fun e => by have := Option.some.inj e; omega) (fun c fz e => by cases e)
    refine ⟨by simp, .inl ⟨_, _, rfl, run_takeDeferred hK5, ?_⟩⟩
    refine ⟨.string ⟨(headT (pvs xs) ++ ([62, 61, 32] ++ Lib.decDigits kb)).toArray⟩, by simp [results, Tryz.f25, go_sem], by rw [HF.out], ?_⟩
    exact (HBW1.out.trans ((HS4.out.below.trans HB5.out).mono (by omega))).trans (belowK_b (w := w) (Nat.le_refl _) W5 D _ _ (by omega) hK5 rfl rfl)
  case stop => rintro D e pre W hD hS ⟨⟩

end Go.Proofs.YtfhpfbakoiekpaaGreatDoor
