/- My texts Vars, Aw2, Open, Lw26, Vr3, Vf0, Vf1, Vf2, merged. -/
import Derived.Test.YteblddnoegbalaaGreatM04
import Derived.Test.YteblddnoegbalaaGreatM03
import Derived.Test.YteblddnoegbalaaGreatM00
import Derived.Test.YteblddnoegbalaaGreatProg
import Derived.WalkKit
import Derived.Lib.Hide
import Derived.Deep.QuietTactic
import Derived.BigQuiet
import Derived.Lib.Bytealg
import Derived.MapKept
import Derived.Maps.OwnSet
import Derived.Maps.OwnOps
import Derived.WalkSpells
import Derived.Lib.SliceRun
import Derived.Test.YteblddnoegbalaaGreatM15
import Derived.Test.YteblddnoegbalaaGreatM02
import Derived.Test.YteblddnoegbalaaGreatM01
import Derived.Deep.AppendLies
import Derived.Test.YteblddnoegbalaaGreatM07
import Derived.Test.YteblddnoegbalaaGreatM05
import Derived.Deep.DeepCutAuto
import Derived.Test.YteblddnoegbalaaGreatM14
import Derived.Laws.EntriesVeiled
import Derived.Deep.RegionWith
import Derived.Test.YteblddnoegbalaaGreatM12
import Derived.Test.YteblddnoegbalaaGreatM11
import Derived.RangeFuncNested
import Derived.RangeFuncBound
import Derived.RangeFuncCalls
import Derived.RangeFuncLeaves
import Derived.OwnWalkIn
import Derived.TacticsInMore
import Derived.LoopNIn
import Derived.LoopIn
import Derived.Stop.RegionWithIn
import Derived.Shelf.Abstract
import Derived.Deep.OwnRows
import Derived.Test.YteblddnoegbalaaGreatM06
import Derived.Shelf.Sort.Plain
import Derived.Shelf.Slices.CompactI
import Derived.Shelf.Slices.In.SortNone
import Derived.Shelf.Strconv.Itoa3
import Derived.Shelf.Strings.BuilderK
import Derived.Shelf.Slices.SearchI
import Derived.Shelf.Slices.Empties
import Derived.Sort.QuietThIn
import Derived.Test.YteblddnoegbalaaGreatM10
import Derived.Test.YteblddnoegbalaaGreatM09
import Derived.Test.YteblddnoegbalaaGreatM08
import Derived.Maps.RangeWalk
import Derived.Lib.SlicesCompact
import Derived.Sort.OwnSortedInts
import Derived.RangeFuncBox
import Derived.Maps.OwnIn
import Derived.Lib.RowBridge
import Derived.Deep.AppendSrc
import Derived.Test.YteblddnoegbalaaGreatM18
import Derived.Test.YteblddnoegbalaaGreatM16
import Derived.Deep.DeepMust
import Derived.Test.YteblddnoegbalaaGreatM13
import Derived.Test.YteblddnoegbalaaGreatM17
import Derived.ProofKit
import Derived.OpenShut
import Derived.ChangeArms
import Derived.SizedLaws
import Derived.Deep.LoopGhost
import Derived.Deep.DrawnRows
import Derived.Laws.Cover1

namespace Go.Proofs.YteblddnoegbalaaGreat
open Go.RowKit
def varsI (p : GP) : Int := if validE p = 0 then p.n + p.rules.length else 0
theorem varsI_any (v : Value) (p : GP) (w : World) (h : ProgIs w v p) :
    Calls Tryz.prog 18 #[v] w fun e w' => e = .returned (.int .i64 (varsI p)) ∧ Below w.heap.size w w' := by
  have h0 := h
  obtain ⟨vn, vs, vr, vm, rfl, hn, hnames, hshown, hrules, hmin⟩ := h
  have hal := bal (Below.refl w.heap.size w) (.cells #[.int .i64 p.n, vn, vs, vr, vm] 33)
  have HP := Lib.hid (h0.below hal)
  obtain ⟨a1, c1, rfl, -, hl1, -, hcell⟩ := hrules.form
  clear h0 hnames hshown hmin hrules hcell
  by_cases hv : validE p = 0
  · have hV := validP hv
    have hvn := hV.n
    have hvr := hV.rules
    have hve : (validE p != 0) = false := by simp [hv]
    have HF : Hid (varsI p = p.n + p.rules.length) := Lib.hid (if_pos hv)
    clear hv hV
    go_enter Tryz.func18, Tryz.ntmps18
    go_wp2_with (go_at_call 39; refine (valid_any _ p _ HP.out).mono ?_; rintro e w1 ⟨rfl, hb1⟩; have hc1 := bcell hb1; have hz1 : w.heap.size < w1.heap.size := (by have := hb1.size; simp at this; omega))
    go_ret
    exact ⟨ret_int HF.out.symm, bon hal hb1⟩
  · have hve : (validE p != 0) = true := by simp [hv]
    have HF : Hid (varsI p = 0) := Lib.hid (if_neg hv)
    clear hv
    go_enter Tryz.func18, Tryz.ntmps18
    go_wp2_with (go_at_call 39; refine (valid_any _ p _ HP.out).mono ?_; rintro e w1 ⟨rfl, hb1⟩)
    go_ret
    exact ⟨ret_int HF.out.symm, bon hal hb1⟩
structure BoxP (b : Nat) (n : Int) (vn vr : Value) (p : GP) (W : World) : Prop where
  prog : ProgIs W (.agg #[.int .i64 n, vn, .slice none 0 0, vr, .slice none 0 0]) p
  box : Blk W b [.int .i64 n, vn, .slice none 0 0, vr, .slice none 0 0] 33
theorem BoxP.on {b : Nat} {n : Int} {vn vr : Value} {p : GP} {W W' : World} (h : BoxP b n vn vr p W) (hb : Below W.heap.size W W') : BoxP b n vn vr p W' := ⟨h.prog.below hb, h.box.below hb⟩
structure Sum3 (a : Option Addr) (b o : Nat) (v0 u0 v1 u1 v2 u2 : Value) (W : World) : Prop where
  lt : b < W.heap.size
  at0 : PBCells W b o ct1 v0 u0
  at1 : PBCells W b (o + 3) ct2 v1 u1
  at2 : PBCells W b (o + 6) ct3 v2 u2
  is0 : PBIs W (.agg #[v0, u0, .int .i64 2]) ct1
  is1 : PBIs W (.agg #[v1, u1, .int .i64 2]) ct2
  is2 : PBIs W (.agg #[v2, u2, .int .i64 1]) ct3
theorem Sum3.on {a : Option Addr} {b o : Nat} {v0 u0 v1 u1 v2 u2 : Value} {W W' : World} (h : Sum3 a b o v0 u0 v1 u1 v2 u2 W) (hb : Below W.heap.size W W') : Sum3 a b o v0 u0 v1 u1 v2 u2 W' :=
  ⟨Nat.lt_of_lt_of_le h.lt hb.size, h.at0.below hb h.lt, h.at1.below hb h.lt, h.at2.below hb h.lt, h.is0.below hb, h.is1.below hb, h.is2.below hb⟩
structure A4 (w : World) (bp : Nat) (an : Option Addr) (nn cn : Nat) (ar : Option Addr) (nr cr : Nat) (ao : Option Addr) (co bs os : Nat) (v0 u0 v1 u1 v2 u2 : Value) (W : World) : Prop where
  p : BoxP bp 2 (.slice an nn cn) (.slice ar nr cr) twoP W
  l : PBsIs W (.slice ao 8 co) (compL twoP)
  s : Sum3 (some ⟨bs, os, none⟩) bs os v0 u0 v1 u1 v2 u2 W
  b : Below w.heap.size w W
theorem A4.on {w : World} {bp : Nat} {an : Option Addr} {nn cn : Nat} {ar : Option Addr} {nr cr : Nat} {ao : Option Addr} {co bs os : Nat} {v0 u0 v1 u1 v2 u2 : Value} {W W' : World} (h : A4 w bp an nn cn ar nr cr ao co bs os v0 u0 v1 u1 v2 u2 W) (hb : Below W.heap.size W W') : A4 w bp an nn cn ar nr cr ao co bs os v0 u0 v1 u1 v2 u2 W' :=
  ⟨h.p.on hb, h.l.below hb, h.s.on hb, bon h.b hb⟩
theorem A4.alloc {w : World} {bp : Nat} {an : Option Addr} {nn cn : Nat} {ar : Option Addr} {nr cr : Nat} {ao : Option Addr} {co bs os : Nat} {v0 u0 v1 u1 v2 u2 : Value} {W : World} (h : A4 w bp an nn cn ar nr cr ao co bs os v0 u0 v1 u1 v2 u2 W) (o : Obj) : A4 w bp an nn cn ar nr cr ao co bs os v0 u0 v1 u1 v2 u2 (W.alloc o) :=
  h.on (bal (Below.refl _ _) _)
theorem list_of {α : Type} (d : α) {Q : Nat → α → Prop} : ∀ (n : Nat), (∀ i, i < n → ∃ x, Q i x) → ∃ l : List α, l.length = n ∧ ∀ i, i < n → Q i (l.getD i d)
  | 0, _ => ⟨[], rfl, fun i hi => absurd hi (Nat.not_lt_zero _)⟩
  | n + 1, h => by
    obtain ⟨l, hl, hq⟩ := list_of d n (fun i hi => h i (by omega))
    obtain ⟨x, hx⟩ := h n (by omega)
    refine ⟨l ++ [x], by simp [hl], fun i hi => ?_⟩
    by_cases e : i < n
    · have := hq i e
      rw [List.getD_eq_getElem?_getD, List.getElem?_append_left (by omega), ← List.getD_eq_getElem?_getD]
      exact this
    · obtain rfl : i = n := by omega
      rw [List.getD_eq_getElem?_getD, List.getElem?_append_right (by omega)]
      simp [hl, hx]
section
variable {H : Type} {enc : TypeId × Value → H} {P : Program} {w : World}
def Reads (enc : TypeId × Value → H) (P : Program) (w : World) (t : TypeId) (cs : List Value) : Prop :=
  ∃ fuel y, DataW.trod enc P w 0 (fun _ => true) true fuel t cs = some y ∧ ∀ m ∈ y.1.weights P t, m ≤ reachBytes
theorem cells_at {a : Addr} {n : Nat} {cs : List Value} (h : w.cells? 0 a n = some cs) : cs.length = n ∧ ∀ j, j < n → w.cell? (a.add j) = cs[j]? := by
  unfold World.cells? at h
  rw [if_pos (Nat.zero_le _)] at h
  refine ⟨by simpa using mapM_some_length h, fun j hj => ?_⟩
  exact mapM_some_get h j j (by simp [hj])
theorem weightsAll_mem {e : TypeId} : ∀ {l : List (DataW H)} {i : Nat} {d : DataW H}, l[i]? = some d → ∀ m ∈ d.weights P e, m ∈ DataW.weightsAll P e l
  | [], i, d, h, m, hm => by simp at h
  | x :: l, 0, d, h, m, hm => by
    simp only [List.getElem?_cons_zero, Option.some.injEq] at h
    subst h
    unfold DataW.weightsAll
    exact List.mem_append.2 (.inl hm)
  | x :: l, i + 1, d, h, m, hm => by
    simp only [List.getElem?_cons_succ] at h
    unfold DataW.weightsAll
    exact List.mem_append.2 (.inr (weightsAll_mem h m hm))
theorem open_slc {t e : TypeId} {sz byt : Nat} {cs : List Value} (ht : P.underlying t = some (.slice e)) (hc : P.cellsOf e = sz) (hs : 1 ≤ sz) (hb : P.bytesOf e = byt) (h : Reads enc P w t cs) :
    ∃ a n cap, cs = [.slice a n cap] ∧ n ≤ cap ∧ cap ≤ maxLen ∧ n * byt ≤ 140737488351232 ∧
      (0 < n → ∃ b off, a = some ⟨b, off, none⟩ ∧ b < w.heap.size ∧ ∀ i, i < n → ∃ cs', cs'.length = sz ∧ (∀ j, j < sz → w.cell? ⟨b, off + i * sz + j, none⟩ = cs'[j]?) ∧ Reads enc P w e cs') := by
  obtain ⟨fuel, y, hy, hw⟩ := h
  rcases DataW.trod_slice ht hy with ⟨rfl, rfl⟩ | ⟨a, len, cap, elems, rest, n, rfl, rfl, rfl, -, hl, hm, hlen, hel, -, -⟩
  · exact ⟨none, 0, 0, rfl, Nat.le_refl _, by unfold maxLen; omega, by omega, fun h => absurd h (Nat.lt_irrefl _)⟩
  · have hws : ∀ m, m ∈ DataW.weights P t (.slice (elems.map (·.1)) (rest.map (·.1))) ↔ m = ((elems.map (·.1)).length + (rest.map (·.1)).length) * P.bytesOf e ∨ m ∈ DataW.weightsAll P e (elems.map (·.1)) ∨ m ∈ DataW.weightsAll P e (rest.map (·.1)) := by
      intro m; simp only [DataW.weights, ht, List.mem_cons, List.mem_append]
    have hbig := hw _ ((hws _).2 (.inl rfl))
    simp only [List.length_map, hlen, hb] at hbig
    have hreach : reachBytes = 140737488351232 := by decide
    refine ⟨some a, len, cap, rfl, hl, hm, ?_, fun hp => ?_⟩
    · have : len * byt ≤ (len + rest.length) * byt := Nat.mul_le_mul_right _ (by omega)
      omega
    · obtain ⟨b, off, spot⟩ := a
      have each : ∀ i, i < len → ∃ cs' y, w.cells? 0 ((⟨b, off, spot⟩ : Addr).add (i * P.cellsOf e)) (P.cellsOf e) = some cs' ∧ DataW.trod enc P w 0 (fun _ => true) true n e cs' = some y ∧ elems[i]? = some y := fun i hi => by
        have h1 := hel i hi
        rw [List.getElem?_eq_getElem (by omega)] at h1
        obtain ⟨cs', h2, h3⟩ := Option.bind_eq_some_iff.1 h1
        exact ⟨cs', _, h2, h3, List.getElem?_eq_getElem (by omega)⟩
      have hspot : spot = none := by
        obtain ⟨cs', y, h1, -, -⟩ := each 0 hp
        rw [Nat.zero_mul, hc] at h1
        obtain ⟨h2, h3⟩ := cells_at h1
        have h4 := h3 0 (by omega)
        rw [List.getElem?_eq_getElem (by omega)] at h4
        simpa [Addr.add] using World.cell?_spot h4
      subst hspot
      have add : ∀ (x : Nat) (o : Nat), ((⟨b, x, none⟩ : Addr).add o) = ⟨b, x + o, none⟩ := fun x o => by unfold Addr.add; split <;> simp_all
      refine ⟨b, off, rfl, ?_, fun i hi => ?_⟩
      · obtain ⟨cs', y, h1, -, -⟩ := each 0 hp
        rw [Nat.zero_mul, hc] at h1
        obtain ⟨h2, h3⟩ := cells_at h1
        have h4 := h3 0 (by omega)
        rw [List.getElem?_eq_getElem (by omega)] at h4
        refine Classical.byContradiction fun hn => ?_
        have : w.heap[b]? = none := Array.getElem?_eq_none (by omega)
        simp [World.cell?, Addr.add, this] at h4
      · obtain ⟨cs', y, h1, h2, h3⟩ := each i hi
        rw [hc] at h1
        obtain ⟨h4, h5⟩ := cells_at h1
        refine ⟨cs', h4, fun j hj => ?_, n, y, h2, fun m hm => hw m ((hws m).2 (.inr (.inl ?_)))⟩
        · have := h5 j hj
          rw [add, add] at this
          exact this
        · exact weightsAll_mem (i := i) (by simp [h3]) m hm
theorem open_int1 {t : TypeId} {k : IntKind} {cs : List Value} (ht : P.underlying t = some (.int k)) (h : Reads enc P w t cs) : ∃ n, cs = [.int k n] ∧ (Lit.int k n).wf = true := by
  obtain ⟨fuel, y, hy, -⟩ := h
  obtain ⟨n, h1, -, h2⟩ := DataW.trod_int ht hy
  exact ⟨n, h1, h2⟩
end
section
variable {H : Type} {enc : TypeId × Value → H} {w : World}
theorem wf_i64 {n : Int} (h : (Lit.int .i64 n).wf = true) : -9223372036854775808 ≤ n ∧ n ≤ 9223372036854775807 := by
  have := bounds_i64 h; omega
theorem open_Ints {cs : List Value} (h : Reads enc Tryz.prog w 23 cs) : ∃ v l, cs = [v] ∧ Ints w v l := by
  obtain ⟨a, n, cap, rfl, h1, h2, h3, h4⟩ := open_slc (sz := 1) (byt := 8) Tryz.underlying23 (by kernel_rfl) (Nat.le_refl _) (by kernel_rfl) h
  by_cases hp : 0 < n
  · obtain ⟨b, off, rfl, hb, hel⟩ := h4 hp
    obtain ⟨l, hl, hq⟩ := list_of (0 : Int) (Q := fun i z => w.cell? ⟨b, off + i, none⟩ = some (.int .i64 z) ∧ InI z) n (fun i hi => by
      obtain ⟨cs', h5, h6, h7⟩ := hel i hi
      obtain ⟨z, rfl, hz⟩ := open_int1 Tryz.underlying3 h7
      have := h6 0 (by omega)
      simp only [Nat.mul_one, Nat.add_zero, List.getElem?_cons_zero] at this
      exact ⟨z, this, wf_i64 hz⟩)
    refine ⟨_, l, rfl, ⟨_, cap, by rw [hl], by omega, h2, by omega, fun _ => ⟨b, off, rfl, hb, fun i hi => (hq i (by omega)).1⟩⟩, fun i => ?_⟩
    by_cases hi : i < n
    · exact (hq i hi).2
    · have : ix l i = 0 := by unfold ix; rw [List.getD_eq_getElem?_getD, List.getElem?_eq_none (by omega)]; rfl
      rw [this]; omega
  · obtain rfl : n = 0 := by omega
    exact ⟨_, [], rfl, ⟨a, cap, rfl, h1, h2, by simp, fun h => absurd h (by simp)⟩, fun i => by simp [ix]⟩
end
structure LwSt (w : World) (p : GP) (vn vs vr vm : Value) (W : World) : Prop where
  box : Blk W w.heap.size [.int .i64 p.n, vn, vs, vr, vm] 33
  prog : ProgIs W (.agg #[.int .i64 p.n, vn, vs, vr, vm]) p
  below : Below w.heap.size w W
theorem LwSt.on {w W W' : World} {p : GP} {vn vs vr vm : Value} (h : LwSt w p vn vs vr vm W) (hb : Below W.heap.size W W') : LwSt w p vn vs vr vm W' := ⟨h.box.below hb, h.prog.below hb, bon h.below hb⟩
theorem LwSt.alloc {w W : World} {p : GP} {vn vs vr vm : Value} (h : LwSt w p vn vs vr vm W) (o : Obj) : LwSt w p vn vs vr vm (W.alloc o) := h.on (bal (Below.refl _ _) _)
theorem LwSt.start {w : World} {p : GP} {vn vs vr vm : Value} (h : ProgIs w (.agg #[.int .i64 p.n, vn, vs, vr, vm]) p) : LwSt w p vn vs vr vm (w.alloc (.cells #[.int .i64 p.n, vn, vs, vr, vm] 33)) := by
  have hal : Below w.heap.size w (w.alloc (.cells #[.int .i64 p.n, vn, vs, vr, vm] 33)) := bal (Below.refl _ _) _
  exact ⟨Blk.new w _ _, h.below hal, hal⟩
end Go.Proofs.YteblddnoegbalaaGreat
namespace Go.Proofs.YteblddnoegbalaaGreat
structure ST where
  kind : Int
  c : PBC
  set : List Int
  ops : List OP
  deriving Inhabited
structure PF where
  given : List PBC
  steps : List ST
def ixS36 (l : List ST) (i : Nat) : ST := l.getD i default
def fitsB (p : GP) (c : PBC) : Bool := pbV c && decide (lastF 0 (c.lits.zip c.coefs) ≤ p.n + p.rules.length)
noncomputable def stepB (p : GP) (db : List PBC) (x : ST) : Bool :=
  fitsB p x.c && (if x.kind = 1 then decide (x.set.length + x.ops.length = 0) && rupB db x.c
    else if x.kind = 2 then decide (x.set.length = 0) && decide (runP x.ops db = (x.c, 0))
    else if x.kind = 3 then decide (x.ops.length = 0) && validC p x.set x.c
    else false)
def badG (p : GP) : List PBC → Nat
  | [] => 0
  | c :: l => if fitsB p c then badG p l + 1 else 0
def beginP (p : GP) (pf : PF) : List PBC × Int × Int :=
  if validE p ≠ 0 then ([], 0, 2)
  else if 65536 < pf.given.length ∨ 65536 < pf.steps.length then ([], 0, 5)
  else if badG p pf.given < pf.given.length then ([], badG p pf.given, 360)
  else (compL p ++ pf.given, 0, 0)
noncomputable def goodS (p : GP) : List PBC → List ST → Nat
  | _, [] => 0
  | db, x :: l => if stepB p db x then goodS p (db ++ [x.c]) l + 1 else 0
def isFalse (c : PBC) : Bool := decide (c.lits.length = 0) && decide (c.bound = 1)
noncomputable def checkP (p : GP) (pf : PF) : Int × Int :=
  if (beginP p pf).2.2 ≠ 0 then ((beginP p pf).2.1, (beginP p pf).2.2)
  else if goodS p (beginP p pf).1 pf.steps < pf.steps.length then (goodS p (beginP p pf).1 pf.steps, 361)
  else if ((beginP p pf).1 ++ pf.steps.map (·.c)).any isFalse then (pf.steps.length, 0) else (pf.steps.length, 362)
theorem lastF_ge {bd : Int} : ∀ {l : List (Int × Int)} {last : Int}, okF bd last l = true → ∀ x ∈ l, (x.1.natAbs : Int) ≤ lastF last l
  | [], _, _, x, hx => by cases hx
  | y :: l, last, h, x, hx => by
    have h' := h
    unfold okF at h'
    rw [Bool.and_eq_true] at h'
    have e : lastF last (y :: l) = lastF (y.1.natAbs : Int) l := rfl
    rw [e]
    rcases List.mem_cons.1 hx with rfl | hx
    · have := (okF_bound l (x.1.natAbs : Int) (by omega) h'.2).1
      omega
    · exact lastF_ge h'.2 x hx
theorem badG_all {p : GP} : ∀ {l : List PBC}, badG p l = l.length → ∀ c ∈ l, fitsB p c = true
  | [], _, c, hc => by cases hc
  | d :: l, h, c, hc => by
    unfold badG at h
    split at h
    · next hd =>
      rcases List.mem_cons.1 hc with rfl | hc
      · exact hd
      · exact badG_all (by simpa using h) c hc
    · simp at h
theorem badG_le (p : GP) : ∀ l, badG p l ≤ l.length
  | [] => Nat.le_refl _
  | d :: l => by
    have := badG_le p l
    unfold badG
    split
    · simpa using this
    · exact Nat.zero_le _
theorem begin_ok {p : GP} {pf : PF} (h : (beginP p pf).2.2 = 0) : validE p = 0 ∧ pf.given.length ≤ 65536 ∧ pf.steps.length ≤ 65536 ∧ (∀ c ∈ pf.given, fitsB p c = true) ∧ beginP p pf = (compL p ++ pf.given, 0, 0) := by
  unfold beginP at h ⊢
  split at h
  · exact absurd h (by simp)
  split at h
  · exact absurd h (by simp)
  split at h
  · exact absurd h (by simp)
  next h1 h2 h3 =>
    rw [if_neg h1, if_neg h2, if_neg h3]
    exact ⟨by omega, by omega, by omega, badG_all (by have := badG_le p pf.given; omega), rfl⟩
end Go.Proofs.YteblddnoegbalaaGreat
namespace Go.Proofs.YteblddnoegbalaaGreat
def topC (c : PBC) : Int := if c.lits.length = 0 then 0 else ((ix c.lits (c.lits.length - 1)).natAbs : Int)
def topTo (db : List PBC) : Nat → Int
  | 0 => 0
  | k + 1 => max (topTo db k) (topC (ixC db k))
theorem topC_last {c : PBC} (hv : pbV c = true) : topC c = lastF 0 (c.lits.zip c.coefs) := by
  have hl := (pbV_parts hv).1
  unfold topC
  by_cases h0 : c.lits.length = 0
  · rw [if_pos h0]
    have : c.lits = [] := List.length_eq_zero_iff.1 h0
    rw [this]
    rfl
  · rw [if_neg h0]
    have h1 := zip_take (L := c.lits) (K := c.coefs) (k := c.lits.length - 1) (by omega) hl
    rw [show c.lits.length - 1 + 1 = c.lits.length by omega, zip_all hl] at h1
    rw [h1, lastF_snoc]
theorem topC_bound {c : PBC} (hv : pbV c = true) : 0 ≤ topC c ∧ topC c ≤ 65536 ∧ ∀ l ∈ c.lits, (l.natAbs : Int) ≤ topC c := by
  have hl := (pbV_parts hv).1
  have hin : ∀ l ∈ c.lits, ∃ x ∈ c.lits.zip c.coefs, x.1 = l := fun l hl' => by
    obtain ⟨j, hj, rfl⟩ := mem_ix.1 hl'
    exact ⟨_, List.mem_of_getElem? (zip_at hj hl), rfl⟩
  refine ⟨?_, ?_, fun l h => ?_⟩
  · unfold topC; split <;> omega
  · unfold topC
    split
    · omega
    · obtain ⟨x, hx, e⟩ := hin _ (ix_mem (show c.lits.length - 1 < c.lits.length by omega))
      have := (pbV_lits hv hx).2.1
      rw [e] at this
      omega
  · rw [topC_last hv]
    obtain ⟨x, hx, rfl⟩ := hin l h
    exact lastF_ge (pbV_parts hv).2.2.2.1 x hx
theorem topTo_bound {db : List PBC} (hv : ∀ c ∈ db, pbV c = true) : ∀ k, k ≤ db.length → 0 ≤ topTo db k ∧ topTo db k ≤ 65536 ∧ ∀ j, j < k → topC (ixC db j) ≤ topTo db k
  | 0, _ => ⟨Int.le_refl _, by show (0 : Int) ≤ _; omega, fun j hj => absurd hj (Nat.not_lt_zero _)⟩
  | k + 1, hk => by
    obtain ⟨h1, h2, h3⟩ := topTo_bound hv k (by omega)
    obtain ⟨g1, g2, -⟩ := topC_bound (hv _ (ixC_mem (show k < db.length by omega)))
    unfold topTo
    refine ⟨by omega, by omega, fun j hj => ?_⟩
    by_cases e : j = k
    · subst e; omega
    · have := h3 j (by omega); omega
theorem mem_ixC {db : List PBC} {c : PBC} (h : c ∈ db) : ∃ j, j < db.length ∧ ixC db j = c := by
  obtain ⟨j, hj, rfl⟩ := List.getElem_of_mem h
  exact ⟨j, hj, by unfold ixC; rw [List.getD_eq_getElem?_getD, List.getElem?_eq_getElem hj]; rfl⟩
theorem top_within {db : List PBC} (hv : ∀ c ∈ db, pbV c = true) {n : Nat} (hn : topTo db db.length = n) : ∀ c ∈ db, Within n c := fun c hc l hl => by
  obtain ⟨j, hj, rfl⟩ := mem_ixC hc
  have h1 := (topC_bound (hv _ hc)).2.2 l hl
  have h2 := (topTo_bound hv db.length (Nat.le_refl _)).2.2 j hj
  omega
theorem fits_top {p : GP} {c : PBC} : fitsB p c = (pbV c && decide (topTo [c] 1 ≤ p.n + p.rules.length)) := by
  unfold fitsB
  cases hv : pbV c with
  | false => rfl
  | true =>
    have h1 := (topC_bound hv).1
    have e : topTo [c] 1 = lastF 0 (c.lits.zip c.coefs) := by
      rw [← topC_last hv]
      show max 0 (topC c) = _
      omega
    rw [e]
end Go.Proofs.YteblddnoegbalaaGreat
namespace Go.Proofs.YteblddnoegbalaaGreat
open Go.RowKit Go.MapKept
theorem upd_upd {κ : Type} [DecidableEq κ] (g : κ → Option Value) (k : κ) (u v : Option Value) : upd (upd g k u) k v = upd g k v := by
  funext x
  unfold upd
  split <;> rfl
def sgn (l : Int) : Int := if l < 0 then -1 else 1
set_option maxHeartbeats 1000000 in
set_option maxRecDepth 100000 in
theorem vset_any (b : Nat) (g : Int → Option Value) (l : Int) (w : World) (h : MapIs (Value.int .i64) w b g) (hl : l ≠ 0 ∧ -65536 ≤ l ∧ l ≤ 65536) :
    Calls Tryz.prog 64 #[.map (some b), .int .i64 l] w fun e w' => e = .returned (.tuple #[]) ∧ MapIs (Value.int .i64) w' b (upd g (l.natAbs : Int) (some (.int .i8 (sgn l)))) ∧ w.grownBy w' (some b) := by
  have HM := Lib.hid h
  clear h
  by_cases h0 : l < 0
  · obtain ⟨n, rfl⟩ : ∃ n : Nat, l = -(n : Int) := ⟨l.natAbs, by omega⟩
    have hmx : max (-(n : Int)) (n : Int) = (n : Int) := by omega
    have HS : Hid (sgn (-(n : Int)) = -1) := Lib.hid (if_pos h0)
    go_enter Tryz.func64, Tryz.ntmps64
    go_upto_region 1 with (at_mapUpdate; refine wpList_mput _ _ (n : Int) (.int .i8 1) kvInt 109 3 52 Tryz.underlying109 Tryz.underlying3 rfl _ _ _ rfl rfl rfl rfl HM.out ?_; intro w2 hm2 hg2 hs2)
    have HM2 := Lib.hid hm2
    have HG2 := Lib.hid hg2
    clear hm2 hg2 hs2
    go_wp2_with (at_mapUpdate; refine wpList_mput _ _ (n : Int) (.int .i8 (-1)) kvInt 109 3 52 Tryz.underlying109 Tryz.underlying3 rfl _ _ _ rfl rfl rfl rfl HM2.out ?_; intro w3 hm3 hg3 hs3; have HM3 := Lib.hid hm3; have HG3 := Lib.hid hg3; clear hm3 hg3 hs3)
    go_end0
    refine ⟨rfl, ?_, HG2.out.trans HG3.out⟩
    rw [HS.out]
    have := HM3.out
    rwa [upd_upd] at this
  · obtain ⟨n, rfl⟩ : ∃ n : Nat, l = (n : Int) := ⟨l.natAbs, by omega⟩
    have hmx : max (n : Int) (-(n : Int)) = (n : Int) := by omega
    have HS : Hid (sgn (n : Int) = 1) := Lib.hid (if_neg h0)
    go_enter Tryz.func64, Tryz.ntmps64
    go_wp2_with (at_mapUpdate; refine wpList_mput _ _ (n : Int) (.int .i8 1) kvInt 109 3 52 Tryz.underlying109 Tryz.underlying3 rfl _ _ _ rfl rfl rfl rfl HM.out ?_; intro w2 hm2 hg2 hs2; have HM2 := Lib.hid hm2; have HG2 := Lib.hid hg2; clear hm2 hg2 hs2)
    go_end0
    refine ⟨rfl, ?_, HG2.out⟩
    rw [HS.out]
    exact HM2.out
def DnBlk (W : World) (ab n : Nat) (F : Int → Int) : Prop := Blk W ab (fnL n (fun j => F (j + 1))) 52
theorem fnL_mk (n : Nat) (F : Int → Int) : fnL n (fun j => F (j + 1)) = (mkA n F).map (Value.int .i8) := by
  unfold fnL mkA
  rw [List.map_map]
  rfl
theorem DnBlk.bytes {W : World} {ab n : Nat} {F : Int → Int} (h : DnBlk W ab n F) (hF : Tri F) (hn : n ≤ 65536) : Bytes8 W (.slice (some ⟨ab, 0, none⟩) n n) (mkA n F) := by
  unfold DnBlk at h
  rw [fnL_mk] at h
  have := Blk.bytes8 h (fit8 fun x hx => by
    obtain ⟨j, -, rfl⟩ := List.mem_map.1 hx
    rcases hF ((j : Int) + 1) with e | e | e <;> rw [e] <;> omega) (by rw [mkA_len]; omega)
  rwa [mkA_len] at this
theorem DnBlk.put {W : World} {ab n q : Nat} {F G : Int → Int} {s : Int} (h : DnBlk W ab n F) (hG : ∀ j : Nat, j < n → G (j + 1) = if j = q then s else F (j + 1)) : DnBlk (W.setCell ⟨ab, q, none⟩ (.int .i8 s)) ab n G := by
  unfold DnBlk at h ⊢
  have := h.set q (.int .i8 s)
  rw [fnL_set, fnL_congr (G := fun j => G (j + 1)) fun j hj => (hG j hj).symm] at this
  exact this
set_option maxHeartbeats 1000000 in
set_option maxRecDepth 100000 in
theorem vdense_any (b n : Nat) (w : World) (h : MapIs (Value.int .i64) w b (fun _ => none)) (hn : n ≤ 65536) :
    Calls Tryz.prog 60 #[.map (some b), .int .i64 n] w fun e w' => e = .returned (.slice (some ⟨w.heap.size, 0, none⟩) n n) ∧ DnBlk w' w.heap.size n (fun _ => 0) ∧ Below w.heap.size w w' := by
  have hmk : ∀ w : World, (Instr.makeSlice 51 (.int .i64 (n : Int)) (.int .i64 (n : Int))).run Tryz.prog w = .ok (.slice (some ⟨w.heap.size, 0, none⟩) n n) (w.alloc (.cells (madeCells #[.int .i8 0] n) 52)) := fun w => run_make_row' _ _ _ _ Tryz.underlying51 info8 rfl .i64 .i64 n (by omega) (by omega) w
  have hal := bal (Below.refl w.heap.size w) (.cells (madeCells #[.int .i8 0] n) 52)
  have HB0 : Hid (DnBlk (w.alloc (.cells (madeCells #[.int .i8 0] n) 52)) w.heap.size n (fun _ => 0)) := Lib.hid (by
    have := Blk.new w (List.replicate n (Value.int .i8 0)) 52
    rw [← made_list] at this
    have e : fnL n (fun _ => 0) = List.replicate n (Value.int .i8 0) := by
      unfold fnL
      apply List.ext_getElem (by simp)
      intro i h1 h2; simp
    unfold DnBlk
    rw [e]; exact this)
  have HAL := Lib.hid hal
  have HM := Lib.hid (h.below hal)
  clear h hal
  go_enter Tryz.func60, Tryz.ntmps60
  go_upto_region 2 with fail
  generalize w.alloc (.cells (madeCells #[.int .i8 0] n) 52) = W1 at *
  go_upto_region 3 with (at_range; refine wpList_mrange (fun _ : Int => (none : Option Value)) b 109 3 52 Tryz.underlying109 rfl _ rfl rfl HM.out ?_; intro w8 cnt hr8 hg8 hs8)
  have HR8 := Lib.hid hr8
  have HB8 := Lib.hid (HAL.out.grown hg8 HAL.out.size fun k e => by cases e)
  have HD8 : Hid (DnBlk w8 w.heap.size n (fun _ => 0)) := Lib.hid (HB0.out.same (hg8.block _ HB0.out.lt (by simp)))
  clear hr8 hg8 hs8 hmk
  simp only [Act.put, List.setIfInBounds_toArray, List.set_cons_succ, List.set_cons_zero]
  have HRB : Hid (w.heap.size < W1.heap.size) := Lib.hid HB0.out.lt
  go_loopw [] (fun wx => ∃ left cnt, RangeIs (Value.int .i64) wx b W1.heap.size (fun _ : Int => (none : Option Value)) left cnt ∧ DnBlk wx w.heap.size n (fun _ => 0) ∧ Below w.heap.size w wx) (fun wx => wx.rangeLeft b W1.heap.size)
  case atStart => exact ⟨_, cnt, HR8.out, HD8.out, HB8.out⟩
  case round =>
    obtain ⟨left, cnt2, hr, hd, hb⟩ := hrel
    have HR := Lib.hid hr
    have HD := Lib.hid hd
    have HB := Lib.hid hb
    clear hr hd hb HR8 HD8 HB8 HB0 HAL HM
    by_cases hc : cnt2 = 0
    · subst hc
      go_upto_region 6 with (at_next; refine wpList_mnext0 (fun _ : Int => (none : Option Value)) b W1.heap.size left kvI_inj rfl _ rfl rfl HR.out ?_; intro hz; clear hz)
      go_wp2_with fail
      go_ret
      exact ⟨rfl, HD.out, HB.out⟩
    · go_upto_region 4 with (at_next; refine wpList_mnext1 (fun _ : Int => (none : Option Value)) b W1.heap.size left cnt2 hc kvI_inj rfl _ rfl rfl HR.out ?_; intro kk vv w1 cnt3 hl1 hv1 hr1 hc1 hg1 hs1 hen; cases hv1)
end Go.Proofs.YteblddnoegbalaaGreat
namespace Go.Proofs.YteblddnoegbalaaGreat
open Go.RowKit Go.MapKept
def TpRel (db : List PBC) (w : World) (s i : Value) (wx : World) : Prop := ∃ k : Nat, k ≤ db.length ∧ i = .int .i64 k ∧ s = .int .i64 (topTo db k) ∧ Below w.heap.size w wx
set_option maxHeartbeats 1000000 in
set_option maxRecDepth 100000 in
theorem vtop_any (v : Value) (db : List PBC) (w : World) (h : PBsIs w v db) (hv : ∀ c ∈ db, pbV c = true) :
    Calls Tryz.prog 61 #[v] w fun e w' => e = .returned (.int .i64 (topTo db db.length)) ∧ Below w.heap.size w w' := by
  obtain ⟨a1, c1, rfl, -, hl1, -, hcell⟩ := h.form
  have HC := Lib.hid hcell
  have HV := Lib.hid hv
  clear h hcell hv
  go_enter Tryz.func61, Tryz.ntmps61
  go_wp2_with fail
  go_loopw [3, 9] (fun s i wx => TpRel db w s i wx) (fun _ i _ => db.length - (intOf i).toNat)
  case atStart => exact ⟨0, Nat.zero_le _, rfl, rfl, Below.refl _ _⟩
  case round =>
    obtain ⟨k, hk, rfl, rfl, hb⟩ := hrel
    have HB := Lib.hid hb
    by_cases hlt : k < db.length
    · obtain ⟨b, off, rfl, hbl, hc⟩ := HC.out (by omega)
      obtain ⟨vl, vk, ⟨k0, k1, k2⟩, hsl⟩ := hc k hlt
      obtain ⟨c, hcc⟩ : ∃ c, ixC db k = c := ⟨_, rfl⟩
      have hvc := HV.out _ (ixC_mem hlt)
      rw [hcc] at k2 hsl hvc
      obtain ⟨a2, c2, rfl, -, hl2, -, hcL⟩ := hsl.lits.form
      obtain ⟨a3, c3, rfl, -, hl3, -, -⟩ := hsl.coefs.form
      have q0 := (bcell hb _ _ hbl).trans k0
      have q1 := (bcell hb _ _ hbl).trans k1
      have q2 := (bcell hb _ _ hbl).trans k2
      obtain ⟨T, hT⟩ : ∃ T, topTo db k = T := ⟨_, rfl⟩
      have hTb := topTo_bound HV.out k hk
      rw [hT] at hTb
      have HN : Hid (topTo db (k + 1) = max T (topC c)) := Lib.hid (by unfold topTo; rw [hT, hcc])
      have htc := topC_bound hvc
      rw [hT]
      obtain ⟨t0, t1, -⟩ := hTb
      obtain ⟨u0, u1, -⟩ := htc
      clear k0 k1 k2 hc hb hT hcc hvc
      by_cases h0 : c.lits.length = 0
      · have HN2 : Hid (topTo db (k + 1) = T) := Lib.hid (by rw [HN.out]; unfold topC; rw [if_pos h0]; omega)
        go_wp2_with fail
        first
          | (go_roundw
             case rel => (exact ⟨k + 1, hlt, by go_num, by rw [HN2.out], bon HB.out (bal (Below.refl _ _) _)⟩)
             case measure => (simp [intOf]; omega))
          | (refine ⟨?_, ?_⟩
             · (exact ⟨k + 1, hlt, by go_num, by rw [HN2.out], bon HB.out (bal (Below.refl _ _) _)⟩)
             · (simp [intOf]; omega))
      · obtain ⟨b2, o2, rfl, hbl2, hcl⟩ := hcL (by omega)
        obtain ⟨n, hn⟩ : ∃ n : Nat, c.lits.length = n + 1 := ⟨c.lits.length - 1, by omega⟩
        have q3 := (bcell HB.out _ _ hbl2).trans (hcl n (by omega))
        obtain ⟨l, hl⟩ : ∃ l, ix c.lits n = l := ⟨_, rfl⟩
        rw [hl] at q3
        have HN2 : Hid (topTo db (k + 1) = max T (l.natAbs : Int)) := Lib.hid (by rw [HN.out]; unfold topC; rw [if_neg h0, hn, Nat.add_sub_cancel, hl])
        have hlb : (l.natAbs : Int) ≤ 65536 := by
          have : topC c = (l.natAbs : Int) := by unfold topC; rw [if_neg h0, hn, Nat.add_sub_cancel, hl]
          omega
        have hnb : n ≤ 1000000000000000 := by omega
        have hlr : -65536 ≤ l ∧ l ≤ 65536 := by omega
        have hb2l : b2 < wr.heap.size := Nat.lt_of_lt_of_le hbl2 HB.out.size
        have hmx : max (max T l) (-l) = max T (l.natAbs : Int) := by omega
        clear hcL hcl hl
        go_upto_region 7 with fail
        go_region
        go_wp2_with fail
        first
          | (go_roundw
             case rel => (exact ⟨k + 1, hlt, by go_num, by rw [HN2.out]; show Value.int _ _ = Value.int _ _; congr 1; (repeat' split) <;> omega, bon HB.out (bal (Below.refl _ _) _).drew⟩)
             case measure => (simp [intOf]; omega))
          | (refine ⟨?_, ?_⟩
             · (exact ⟨k + 1, hlt, by go_num, by rw [HN2.out]; show Value.int _ _ = Value.int _ _; congr 1; (repeat' split) <;> omega, bon HB.out (bal (Below.refl _ _) _).drew⟩)
             · (simp [intOf]; omega))
    · obtain rfl : k = db.length := by omega
      go_wp2_with fail
      go_ret
      exact ⟨rfl, HB.out⟩
structure FsSt (w : World) (db : List PBC) (ab n : Nat) (F : Int → Int) (W : World) : Prop where
  dn : DnBlk W ab n F
  below : Below w.heap.size w W
  tri : Tri F
  inv : Inv36 db F
  lo : w.heap.size ≤ ab
theorem FsSt.on {w : World} {db : List PBC} {ab n : Nat} {F : Int → Int} {W W' : World} (h : FsSt w db ab n F W) (hb : Below W.heap.size W W') : FsSt w db ab n F W' := ⟨h.dn.below hb, bon h.below hb, h.tri, h.inv, h.lo⟩
def FsO (w : World) (db : List PBC) (ab n : Nat) (g : Nat) (m : Value) (W : World) : Prop :=
  ∃ (F : Int → Int) (b : Bool), FsSt w db ab n F W ∧ m = .bool b ∧ g = zerN F n + (if b then 1 else 0) ∧ (b = false → ∀ c ∈ db, CloC (litV F) c)
def FsI (w : World) (db : List PBC) (ab n : Nat) (F0 : Int → Int) (m i : Value) (W : World) : Prop :=
  ∃ (F : Int → Int) (b : Bool) (j : Nat), FsSt w db ab n F W ∧ m = .bool b ∧ i = .int .i64 j ∧ j ≤ db.length ∧ zerN F n ≤ zerN F0 n ∧ (b = true → zerN F n < zerN F0 n) ∧ (b = false → F = F0 ∧ ∀ k, k < j → CloC (litV F0) (ixC db k))
def mpV (g : Int → Option Int) : Int → Option Value := fun v => (g v).map (Value.int .i8)
def GoodG (U : List Int) (g : Int → Option Int) : Prop := ∀ v s, g v = some s → 0 < v ∧ ((s = 1 ∧ v ∈ U) ∨ (s = -1 ∧ -v ∈ U))
def FsU (U : List Int) (W3 : World) (mb : Nat) (m0 : Bool) (m i : Value) (W : World) : Prop :=
  ∃ (j : Nat) (g : Int → Option Int), i = .int .i64 j ∧ j ≤ U.length ∧ MapIs (Value.int .i64) W mb (mpV g) ∧ GoodG U g ∧ (∀ k, k < j → (g ((ix U k).natAbs : Int)).isSome = true) ∧ m = .bool (m0 || decide (0 < j)) ∧ W3.grownBy W (some mb)
def FsM (w : World) (ab n : Nat) (F : Int → Int) (g : Int → Option Int) (mb rb : Nat) (W : World) : Prop :=
  ∃ (left : Int → Bool) (cnt : Nat), RangeIs (Value.int .i64) W mb rb (mpV g) left cnt ∧ DnBlk W ab n (setV F fun v => if left v then none else g v) ∧ Below w.heap.size w W
theorem mpV_upd (g : Int → Option Int) (k s : Int) : upd (mpV g) k (some (.int .i8 s)) = mpV (fun v => if v = k then some s else g v) := by
  funext v
  unfold upd mpV
  dsimp only
  by_cases h : v = k
  · rw [if_pos h, if_pos h]; rfl
  · rw [if_neg h, if_neg h]
theorem mpV_some {g : Int → Option Int} {v : Int} {u : Value} (h : mpV g v = some u) : ∃ s, g v = some s ∧ u = .int .i8 s := by
  unfold mpV at h
  cases e : g v with
  | none => rw [e] at h; cases h
  | some s => rw [e] at h; exact ⟨s, rfl, (Option.some.inj h).symm⟩
theorem goodG_upd {U : List Int} {g : Int → Option Int} (h : GoodG U g) {l : Int} (hl : l ∈ U) (h0 : l ≠ 0) : GoodG U (fun v => if v = (l.natAbs : Int) then some (sgn l) else g v) := fun v s e => by
  dsimp only at e
  split at e
  · next hv =>
    obtain rfl := Option.some.inj e
    subst hv
    refine ⟨by omega, ?_⟩
    unfold sgn
    by_cases hn : l < 0
    · rw [if_pos hn]
      exact .inr ⟨rfl, by rw [show -(l.natAbs : Int) = l by omega]; exact hl⟩
    · rw [if_neg hn]
      exact .inl ⟨rfl, by rw [show (l.natAbs : Int) = l by omega]; exact hl⟩
  · exact h v s e
theorem setV_step {F : Int → Int} {g : Int → Option Int} {left : Int → Bool} {kk s : Int} {n q : Nat} (hq : kk = (q : Int) + 1) (hg : g kk = some s) : ∀ j : Nat, j < n →
    setV F (fun v => if (left v && !decide (v = kk)) = true then none else g v) (j + 1) = if j = q then s else setV F (fun v => if left v = true then none else g v) (j + 1) := fun j _ => by
  unfold setV
  by_cases e : j = q
  · subst e
    rw [if_pos rfl, ← hq]
    dsimp only
    rw [if_neg (by simp), hg]
    rfl
  · rw [if_neg e]
    have hne : ¬ ((j : Int) + 1 = kk) := by omega
    simp [hne]
theorem clo_step {db : List PBC} {f : Int → Int} {j : Nat} {c : PBC} (h : ∀ k, k < j → CloC f (ixC db k)) (hc : ixC db j = c) (hj : CloC f c) : ∀ k, k < j + 1 → CloC f (ixC db k) := fun k hk => by
  rcases Nat.lt_succ_iff_lt_or_eq.1 hk with h1 | rfl
  · exact h k h1
  · rw [hc]; exact hj
theorem fsM_step {w w1 : World} {ab n mb rb q cnt : Nat} {F : Int → Int} {g : Int → Option Int} {left : Int → Bool} {kk s : Int} (hr : RangeIs (Value.int .i64) w1 mb rb (mpV g) (fun x => left x && !decide (x = kk)) cnt) (hd : DnBlk w1 ab n (setV F fun v => if left v = true then none else g v)) (hb : Below w.heap.size w w1) (hlr : ab < rb) (hlo : w.heap.size ≤ ab) (hq : kk = (q : Int) + 1) (hg : g kk = some s) :
    RangeIs (Value.int .i64) (w1.setCell ⟨ab, q, none⟩ (.int .i8 s)) mb rb (mpV g) (fun x => left x && !decide (x = kk)) cnt ∧ DnBlk (w1.setCell ⟨ab, q, none⟩ (.int .i8 s)) ab n (setV F fun v => if (left v && !decide (v = kk)) = true then none else g v) ∧ Below w.heap.size w (w1.setCell ⟨ab, q, none⟩ (.int .i8 s)) := by
  have hm : mb ≠ ab := fun e => by
    obtain ⟨es, clock, e2, -⟩ := hr.map
    unfold DnBlk Blk at hd
    rw [← e, e2] at hd
    cases hd
  exact ⟨hr.same (Below.heap_setCell _ _ _ _ hm) (Below.heap_setCell _ _ _ _ (by show rb ≠ ab; omega)), hd.put (setV_step hq hg), hb.setCell (p := ⟨ab, q, none⟩) hlo _⟩
theorem setV_start (F : Int → Int) (g : Int → Option Int) : (setV F fun v => if (mpV g v).isSome = true then none else g v) = F := by
  funext v
  unfold setV mpV
  dsimp only
  cases e : g v <;> simp
theorem setV_end (F : Int → Int) (g : Int → Option Int) {left : Int → Bool} (h : ∀ v, left v = false) : (setV F fun v => if left v = true then none else g v) = setV F g := by
  funext v
  unfold setV
  dsimp only
  rw [h v]
  simp
theorem setV_none (F : Int → Int) {g : Int → Option Int} (h : ∀ v, g v = none) : setV F g = F := by
  funext v
  unfold setV
  rw [h v]
  rfl
theorem setU_step {U : List Int} {g : Int → Option Int} {q : Nat} {l : Int} (h : ∀ k, k < q → (g ((ix U k).natAbs : Int)).isSome = true) (hl : ix U q = l) : ∀ k, k < q + 1 → ((fun v => if v = (l.natAbs : Int) then some (sgn l) else g v) ((ix U k).natAbs : Int)).isSome = true := fun k hk => by
  dsimp only
  split
  · rfl
  · next hne =>
    rcases Nat.lt_succ_iff_lt_or_eq.1 hk with h1 | rfl
    · exact h k h1
    · rw [hl] at hne; exact absurd rfl hne
theorem no_cell_map {W : World} {mb o : Nat} {kv : Int → Value} {g : Int → Option Value} (h : MapIs kv W mb g) : W.cell? ⟨mb, o, none⟩ = none := by
  obtain ⟨es, clock, e, -⟩ := h
  simp [World.cell?, e]
theorem slack36_call {v va : Value} {c : PBC} {a : List Int} {s : Int} {w : World} (hs : slackC c a = s) (h : PBIs w v c) (ha : Bytes8 w va a) :
    Calls Tryz.prog 62 #[v, va] w fun e w' => e = .returned (.int .i64 s) ∧ Below w.heap.size w w' := by
  have := slack_any v va c a w h ha
  rwa [hs] at this
theorem units36_call {v va : Value} {c : PBC} {a U : List Int} {w : World} (hs : unitsC c a = U) (h : PBIs w v c) (ha : Bytes8 w va a) :
    Calls Tryz.prog 63 #[v, va] w fun e w' => ∃ x y, e = .returned (.slice x U.length y) ∧ Ints w' (.slice x U.length y) U ∧ Below w.heap.size w w' := by
  refine (units_any v va c a w h ha).mono ?_
  rintro e w' ⟨vo, rfl, hq, hb⟩
  rw [hs] at hq
  obtain ⟨x, y, rfl, -, -, hq', -⟩ := hq.form
  exact ⟨x, y, rfl, hq', hb⟩
theorem vtop_call {v : Value} {db : List PBC} {T : Int} {w : World} (hT : topTo db db.length = T) (h : PBsIs w v db) (hv : ∀ c ∈ db, pbV c = true) :
    Calls Tryz.prog 61 #[v] w fun e w' => e = .returned (.int .i64 T) ∧ Below w.heap.size w w' := by
  have := vtop_any v db w h hv
  rwa [hT] at this
set_option maxHeartbeats 8000000 in
set_option maxRecDepth 100000 in
theorem fails_any (v : Value) (db : List PBC) (w : World) (h : PBsIs w v db) (hv : ∀ c ∈ db, pbV c = true) :
    Calls Tryz.prog 34 #[v] w fun e w' => e = .returned (.bool (failB db)) ∧ Below w.heap.size w w' := by
  have h0 := h
  obtain ⟨a1, c1, rfl, -, hl1, -, hcell⟩ := h.form
  obtain ⟨T0, T1, -⟩ := topTo_bound hv db.length (Nat.le_refl _)
  obtain ⟨n, hn⟩ : ∃ n : Nat, topTo db db.length = n := ⟨(topTo db db.length).toNat, by omega⟩
  have hn2 : n ≤ 65536 := by omega
  have HWI := Lib.hid (top_within hv hn)
  have HT := Lib.hid hn
  have HV := Lib.hid hv
  have HC := Lib.hid hcell
  have hmm := @run_makeMap Tryz.prog
  have hal := bal (Below.refl w.heap.size w) (.map #[] 0)
  have HP0 := Lib.hid (h0.below hal)
  have HAL := Lib.hid hal
  have HM0 : Hid (MapIs (Value.int .i64) (w.alloc (.map #[] 0)) w.heap.size (fun _ => none)) := Lib.hid (MapIs.made w)
  clear h h0 hcell hv hal hn T0 T1
  go_enter Tryz.func34, Tryz.ntmps34
  go_upto_region 2 with (first
    | (go_at_call 61; (with_reducible refine (vtop_call HT.out HP0.out HV.out).mono ?_); rintro e w1 ⟨rfl, hb1⟩; have HM1 := Lib.hid (HM0.out.below hb1); have HB1 := Lib.hid (bon HAL.out hb1); clear hb1)
    | (go_at_call 60; (with_reducible refine (vdense_any _ n w1 HM1.out hn2).mono ?_); rintro e w2 ⟨rfl, hd2, hb2⟩; have HS0 : Hid (FsSt w db w1.heap.size n (fun _ => 0) w2) := Lib.hid ⟨hd2, bon HB1.out hb2, fun _ => .inr (.inl rfl), Inv36.start db, HB1.out.size⟩; clear hd2 hb2))
  generalize w1.heap.size = ab at *
  clear HM0 HP0 HAL
  go_wp2_with fail
  go_loopg [4] (zerN (fun _ => 0) n + 1) (fun g m wx => FsO w db ab n g m wx)
  case atStart => exact ⟨_, true, HS0.out, rfl, rfl, fun h => by cases h⟩
  case round =>
    obtain ⟨F, b, hst, rfl, hg, hcl⟩ := hrel
    have HS1 := Lib.hid hst
    have HG := Lib.hid hg
    clear hst hg
    cases b with
    | false =>
      have HF : Hid (failB db = false) := Lib.hid (failB_false.2 ⟨litV F, litV_odd F, hcl rfl⟩)
      clear hcl
      go_wp2_with fail
      go_ret
      exact ⟨ret_bool HF.out.symm, HS1.out.below⟩
    | true =>
      clear hcl
      go_wp2_with fail
      generalize wr = wq at *
      go_loopw [4, 19] (fun m i wx => FsI w db ab n F m i wx) (fun _ i _ => db.length - (intOf i).toNat)
      case atStart => exact ⟨F, false, 0, HS1.out, rfl, rfl, Nat.zero_le _, Nat.le_refl _, fun h => (by cases h), fun _ => ⟨rfl, fun k hk => absurd hk (Nat.not_lt_zero _)⟩⟩
      case round =>
        obtain ⟨F2, b2, j, hst, rfl, rfl, hj, hz, hz1, hz0⟩ := hrel
        have HS2 := Lib.hid hst
        have HZ := Lib.hid hz
        have HZ1 := Lib.hid hz1
        have HZ0 := Lib.hid hz0
        clear hst hz hz1 hz0
        by_cases hlt : j < db.length
        · obtain ⟨bb, off, rfl, hbl, hc⟩ := HC.out (by omega)
          obtain ⟨vl, vk, ⟨k0, k1, k2⟩, hsl⟩ := hc j hlt
          obtain ⟨c, hcc⟩ : ∃ c, ixC db j = c := ⟨_, rfl⟩
          have HMEM : Hid (c ∈ db) := Lib.hid (by rw [← hcc]; exact ixC_mem hlt)
          rw [hcc] at k2 hsl
          obtain ⟨a2, c2, rfl, -⟩ := id hsl.lits.form
          obtain ⟨a3, c3, rfl, -⟩ := id hsl.coefs.form
          have kk := bcell HS2.out.below bb
          have q0 := (kk _ hbl).trans k0
          have q1 := (kk _ hbl).trans k1
          have q2 := (kk _ hbl).trans k2
          have HCC := Lib.hid hcc
          have hal := bal (Below.refl wr.heap.size wr) (.cells #[.slice a2 c.lits.length c2, .slice a3 c.coefs.length c3, .int .i64 c.bound] 25)
          have HS3 := Lib.hid (HS2.out.on hal)
          have HBX := Lib.hid (Blk.new wr [.slice a2 c.lits.length c2, .slice a3 c.coefs.length c3, .int .i64 c.bound] 25)
          have HPI := Lib.hid ((hsl.below HS2.out.below).is.below hal)
          clear kk k0 k1 k2 hc hsl hcc hal
          go_upto_region 8 with fail
          have kx := HBX.out.cell
          clear q0 q1 q2
          generalize wr.alloc (.cells #[.slice a2 c.lits.length c2, .slice a3 c.coefs.length c3, .int .i64 c.bound] 25) = W3 at *
          generalize wr.heap.size = xb at *
          have HVC : Hid (pbV c = true) := Lib.hid (HV.out c HMEM.out)
          have HWC : Hid (Within n c) := Lib.hid (HWI.out c HMEM.out)
          have HBY := Lib.hid (HS3.out.dn.bytes HS3.out.tri hn2)
          obtain ⟨s, hs⟩ : ∃ s, slackC c (mkA n F2) = s := ⟨_, rfl⟩
          have HSL := Lib.hid hs
          by_cases hs0 : s < 0
          · have HF : Hid (failB db = true) := Lib.hid (HS3.out.inv.bad HS3.out.tri HMEM.out HVC.out HWC.out (by rw [hs]; exact hs0))
            clear hs
            go_wp2_with (go_at_call 62; (with_reducible refine (slack36_call HSL.out HPI.out HBY.out).mono ?_); rintro e w4 ⟨rfl, hb4⟩; have HB4 := Lib.hid (bon HS3.out.below hb4); clear hb4)
            go_ret
            exact ⟨ret_bool HF.out.symm, HB4.out⟩
          · have HS00 : Hid (0 ≤ slackC c (mkA n F2)) := Lib.hid (by rw [hs]; omega)
            obtain ⟨U, hU⟩ : ∃ U, unitsC c (mkA n F2) = U := ⟨_, rfl⟩
            have HU := Lib.hid hU
            have HUL : Hid (∀ l ∈ U, l ≠ 0 ∧ l.natAbs ≤ n) := Lib.hid fun l hl => by
              rw [← hU] at hl
              obtain ⟨x, hx, rfl, -, -⟩ := (units_mk HS3.out.tri HVC.out HWC.out HS00.out).1 hl
              exact ⟨(pbV_lits HVC.out hx).1, HWC.out _ (zip_fst hx)⟩
            clear hs hU
            go_upto_region 12 with (first
              | (go_at_call 62; (with_reducible refine (slack36_call HSL.out HPI.out HBY.out).mono ?_); rintro e w4 ⟨rfl, hb4⟩; have hal4 := bal (Below.refl w4.heap.size w4) (.map #[] 0); have HS4 := Lib.hid ((HS3.out.on hb4).on hal4); have HBX4 := Lib.hid ((HBX.out.below hb4).below hal4); have HPI4 := Lib.hid ((HPI.out.below hb4).below hal4); have HBY4 := Lib.hid ((HBY.out.below hb4).below hal4); have HM4 : Hid (MapIs (Value.int .i64) (w4.alloc (.map #[] 0)) w4.heap.size (mpV fun _ => none)) := Lib.hid (MapIs.made w4); have kx4 := HBX4.out.cell; have HMB : Hid (w.heap.size ≤ w4.heap.size) := Lib.hid (bon HS3.out.below hb4).size; clear hb4 hal4)
              | (go_at_call 63; (with_reducible refine (units36_call HU.out HPI4.out HBY4.out).mono ?_); rintro e w5 ⟨x5, y5, rfl, hq5, hb5⟩; have HS5 := Lib.hid (HS4.out.on hb5); have HM5 := Lib.hid (HM4.out.below hb5); have HQ5 := Lib.hid hq5; clear hb5 hq5))
            generalize w4.heap.size = mb at *
            have hUb : U.length ≤ 1000000000000000 := by obtain ⟨_, _, _, _, h, _⟩ := HQ5.out.form; exact h
            clear kx kx4 HS4 HBX4 HPI4 HBY4 HM4 HBX HPI HBY
            go_loopw [4, 32] (fun m i wx => FsU U w5 mb b2 m i wx) (fun _ i _ => U.length - (intOf i).toNat)
            case atStart => exact ⟨0, fun _ => none, rfl, Nat.zero_le _, HM5.out, fun v s e => (by cases e), fun k hk => absurd hk (Nat.not_lt_zero _), by simp, ⟨rfl, rfl, rfl, Nat.le_refl _, fun _ _ _ => rfl⟩⟩
            case round =>
              obtain ⟨q, g, rfl, hq, hmap, hgg, hset, rfl, hgr⟩ := hrel
              have HMP := Lib.hid hmap
              have HGG := Lib.hid hgg
              have HST := Lib.hid hset
              have HGR := Lib.hid hgr
              clear hmap hgg hset hgr
              by_cases hlt2 : q < U.length
              · obtain ⟨bq, oq, rfl, hbq, hcq⟩ := HQ5.out.at hlt2
                have hne : bq ≠ mb := fun e => by
                  subst e
                  rw [no_cell_map HM5.out] at hcq
                  cases hcq
                have qq := (World.cell?_of_block (HGR.out.block bq hbq (fun e => hne (Option.some.inj e)))).trans hcq
                obtain ⟨l, hl⟩ : ∃ l, ix U q = l := ⟨_, rfl⟩
                rw [hl] at qq
                have HLM : Hid (l ∈ U) := Lib.hid (by rw [← hl]; exact ix_mem hlt2)
                have HLB : Hid (l ≠ 0 ∧ -65536 ≤ l ∧ l ≤ 65536) := Lib.hid (by obtain ⟨u1, u2⟩ := HUL.out l HLM.out; exact ⟨u1, by omega, by omega⟩)
                have HIX := Lib.hid hl
                clear hne hcq hl
                go_wp2_with (go_at_call 64; (with_reducible refine (vset_any mb _ l _ HMP.out HLB.out).mono ?_); rintro e w6 ⟨rfl, hm6, hg6⟩; have HM6 := Lib.hid hm6; have HG6 := Lib.hid hg6; clear hm6 hg6)
                go_roundw
                case measure => (simp [intOf]; omega)
                case rel => (exact ⟨q + 1, _, by go_num, hlt2, by rw [← mpV_upd]; exact HM6.out, goodG_upd HGG.out HLM.out HLB.out.1, setU_step HST.out HIX.out, by simp, HGR.out.trans HG6.out⟩)
              · obtain rfl : q = U.length := by omega
                have hb6 : Below w.heap.size w wr := HS5.out.below.grown HGR.out HS5.out.below.size (fun k e => by cases e; exact HMB.out)
                have hd6 : DnBlk wr ab n F2 := HS5.out.dn.same (HGR.out.block _ HS5.out.dn.lt (fun e => by
                  have e1 := Option.some.inj e
                  obtain ⟨es, clock, e2, -⟩ := HM5.out
                  have e3 := HS5.out.dn
                  unfold DnBlk Blk at e3
                  rw [e1, e2] at e3
                  cases e3))
                have HB6 := Lib.hid hb6
                have HD6 := Lib.hid hd6
                have HLO := Lib.hid HS5.out.lo
                have HTRI := Lib.hid HS5.out.tri
                have HINV := Lib.hid HS5.out.inv
                clear hb6 hd6
                go_upto_region 18 with (at_range; refine wpList_mrange (mpV g) mb 109 3 52 Tryz.underlying109 rfl _ rfl rfl HMP.out ?_; intro w8 cnt hr8 hg8 hs8)
                have HRB : Hid (w.heap.size ≤ wr.heap.size) := Lib.hid HB6.out.size
                have HF8 : Hid (FsM w ab n F2 g mb wr.heap.size w8) := Lib.hid ⟨_, cnt, hr8, by
                  rw [setV_start]
                  exact HD6.out.same (hg8.block _ HD6.out.lt (by simp)), HB6.out.grown hg8 HB6.out.size (fun k e => by cases e)⟩
                have HLR : Hid (ab < wr.heap.size ∧ mb < wr.heap.size) := Lib.hid ⟨HD6.out.lt, HMP.out.lt⟩
                clear hr8 hg8 hs8
                simp only [Act.put, List.setIfInBounds_toArray, List.set_cons_succ, List.set_cons_zero]
                generalize wr.heap.size = rb at *
                clear HMP HD6 HB6 HGR HM5 HQ5 HS2 HS3 HS5
                go_loopw [] (fun wx => FsM w ab n F2 g mb rb wx) (fun wx => wx.rangeLeft mb rb)
                case atStart => exact HF8.out
                case round =>
                  obtain ⟨left, cnt2, hr, hd, hb⟩ := hrel
                  have HR := Lib.hid hr
                  have HD := Lib.hid hd
                  have HB := Lib.hid hb
                  have hle := hr.left_eq
                  clear hr hd hb HF8
                  by_cases hc : cnt2 = 0
                  · subst hc
                    go_upto_region 21 with (at_next; refine wpList_mnext0 (mpV g) mb rb left kvI_inj rfl _ rfl rfl HR.out ?_; intro hz; have HZL := Lib.hid hz; clear hz)
                    have HD2 : Hid (DnBlk wr ab n (setV F2 g)) := Lib.hid (by rw [← setV_end F2 g HZL.out]; exact HD.out)
                    clear HD hle
                    by_cases hU0 : U.length = 0
                    · have HUN : Hid (U = []) := Lib.hid (List.length_eq_zero_iff.1 hU0)
                      have HD3 : Hid (DnBlk wr ab n F2) := Lib.hid (by
                        rw [← setV_none F2 (g := g) fun v => ?_]
                        · exact HD2.out
                        · cases e : g v with
                          | none => rfl
                          | some s => rcases (HGG.out v s e).2 with ⟨-, h⟩ | ⟨-, h⟩ <;> (rw [HUN.out] at h; cases h))
                      have HCL : Hid (CloC (litV F2) c) := Lib.hid (clo_none HTRI.out HVC.out HWC.out HS00.out (HU.out.trans HUN.out))
                      have hu0 : decide (0 < U.length) = false := decide_eq_false (by omega)
                      clear hU0
                      go_wp2_with fail
                      go_roundw
                      case measure => (simp [intOf]; omega)
                      case rel => exact ⟨F2, b2, j + 1, ⟨HD3.out, HB.out, HTRI.out, HINV.out, HLO.out⟩, by simp [hu0], by go_num, hlt, HZ.out, HZ1.out, fun e => ⟨(HZ0.out e).1, clo_step (HZ0.out e).2 HCC.out ((HZ0.out e).1 ▸ HCL.out)⟩⟩
                    · have hu0 : decide (0 < U.length) = true := decide_eq_true (by omega)
                      have HNX := Lib.hid (HINV.out.next HTRI.out HMEM.out HVC.out HWC.out HS00.out (g := g) fun v s e => by rw [HU.out]; exact (HGG.out v s e).2)
                      have HLT : Hid (zerN (setV F2 g) n < zerN F2 n) := Lib.hid (set_fewer HTRI.out HVC.out HWC.out HS00.out (g := g) ⟨fun v s e => by rw [HU.out]; exact (HGG.out v s e).2, fun l hl => by
                        rw [HU.out] at hl
                        obtain ⟨k, hk, rfl⟩ := mem_ix.1 hl
                        exact HST.out k hk⟩ (l := ix U 0) (by rw [HU.out]; exact ix_mem (by omega)))
                      clear hU0
                      go_wp2_with fail
                      go_roundw
                      case measure => (simp [intOf]; omega)
                      case rel => exact ⟨setV F2 g, true, j + 1, ⟨HD2.out, HB.out, HNX.out.1, HNX.out.2, HLO.out⟩, by simp [hu0], by go_num, hlt, by have := HLT.out; have := HZ.out; omega, fun _ => by have := HLT.out; have := HZ.out; omega, fun e => by cases e⟩
                  · go_upto_region 19 with (at_next; refine wpList_mnext1 (mpV g) mb rb left cnt2 hc kvI_inj rfl _ rfl rfl HR.out ?_; intro kk vv w1 cnt3 hl1 hv1 hr1 hc1 hg1 hs1 hen; obtain ⟨s9, hgk, rfl⟩ := mpV_some hv1; have HR1 := Lib.hid hr1; have HG1 := Lib.hid hg1; have HGK := Lib.hid hgk; have HLE := Lib.hid hr1.left_eq; clear hl1 hv1 hr1 hg1 hs1 hgk)
                    obtain ⟨q, hqk, hqn⟩ : ∃ q : Nat, kk = (q : Int) + 1 ∧ q < n := by
                      obtain ⟨h1, h2⟩ := HGG.out kk s9 HGK.out
                      refine ⟨(kk - 1).toNat, by omega, ?_⟩
                      rcases h2 with ⟨-, h2⟩ | ⟨-, h2⟩
                      · have := (HUL.out _ h2).2; omega
                      · have := (HUL.out _ h2).2; omega
                    have HQK := Lib.hid hqk
                    subst hqk
                    have HD1 : Hid (DnBlk w1 ab n (setV F2 fun v => if left v = true then none else g v)) := Lib.hid (HD.out.same (HG1.out.block _ HD.out.lt (fun e => by have := Option.some.inj e; have := HLR.out; omega)))
                    have HB1 := Lib.hid (HB.out.grown HG1.out HB.out.size fun k e => by cases e; exact HRB.out)
                    have HST1 := Lib.hid (fsM_step HR1.out HD1.out HB1.out HLR.out.1 HLO.out HQK.out HGK.out)
                    have kq := (HD1.out.cell q).trans (fnL_at hqn)
                    have kf := HD1.out.free q
                    clear HD HB HR1 HG1 HD1 HQK
                    go_wp2_with fail
                    refine ⟨⟨_, cnt3, HST1.out.1, HST1.out.2.1, HST1.out.2.2⟩, ?_⟩
                    rw [HST1.out.1.left_eq, hle]
                    exact hc1
        · obtain rfl : j = db.length := by omega
          go_wp2_with fail
          go_roundg (zerN F2 n + (if b2 then 1 else 0))
          case rel =>
            refine ⟨F2, b2, HS2.out, rfl, rfl, fun e c hc => ?_⟩
            obtain ⟨e1, h1⟩ := HZ0.out e
            obtain ⟨k, hk, rfl⟩ := mem_ixC hc
            rw [e1]
            exact h1 k hk
          case measure =>
            have h1 := HG.out
            have h2 := HZ.out
            have h3 := HZ1.out
            cases b2 with
            | true => have := h3 rfl; simp at h1 ⊢; omega
            | false => simp at h1 ⊢; omega
end Go.Proofs.YteblddnoegbalaaGreat
