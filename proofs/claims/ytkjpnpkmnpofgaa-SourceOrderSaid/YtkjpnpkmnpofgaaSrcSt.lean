/- The state of a Sources object in memory. -/
import Derived.Test.YtkjpnpkmnpofgaaPlain1
namespace Go.Proofs.Ytkjpnpkmnpofgaa
open Go.RowKit

/-- Blocks lo .. hi - 1, but for those of S, are alike. -/
def Same (lo hi : Nat) (S : List Nat) (w w' : World) : Prop := ∀ i, lo ≤ i → i < hi → i ∉ S → w'.heap[i]? = w.heap[i]?

/-- From w to w' nothing but heap has turned; of the first n blocks at most those of S. -/
structure Lim (n : Nat) (S : List Nat) (w w' : World) : Prop where
  os : w'.os = w.os
  tape : w'.tape = w.tape
  output : w'.output = w.output
  size : w.heap.size ≤ w'.heap.size
  block : ∀ i, i < n → i ∉ S → w'.heap[i]? = w.heap[i]?

theorem Lim.refl (n : Nat) (S : List Nat) (w : World) : Lim n S w w := ⟨rfl, rfl, rfl, Nat.le_refl _, fun _ _ _ => rfl⟩
theorem Lim.trans {n : Nat} {S : List Nat} {a b c : World} (h : Lim n S a b) (k : Lim n S b c) : Lim n S a c := ⟨k.os.trans h.os, k.tape.trans h.tape, k.output.trans h.output, Nat.le_trans h.size k.size, fun i hi hs => (k.block i hi hs).trans (h.block i hi hs)⟩
theorem Lim.mono {n m : Nat} {S S' : List Nat} {a b : World} (h : Lim n S a b) (hm : m ≤ n) (hs : ∀ i ∈ S, i < m → i ∈ S') : Lim m S' a b := ⟨h.os, h.tape, h.output, h.size, fun i hi hn => h.block i (by omega) (fun hh => hn (hs i hh hi))⟩
theorem Lim.of_below {n m : Nat} {S : List Nat} {a b : World} (h : Below n a b) (hm : m ≤ n) : Lim m S a b := ⟨h.os, h.tape, h.output, h.size, fun i hi _ => h.block i (by omega)⟩
theorem Lim.of_grown {n b : Nat} {S : List Nat} {w w' : World} (h : w.grownBy w' (some b)) (hb : b ∈ S ∨ n ≤ b) (hn : n ≤ w.heap.size) : Lim n S w w' :=
  ⟨h.os, h.tape, h.output, h.size, fun i hi hs => h.block i (by omega) (fun e => by cases e; rcases hb with hb | hb; exact hs hb; omega)⟩
theorem Lim.below {n : Nat} {S : List Nat} {w w' : World} (h : Lim n S w w') (hs : ∀ i ∈ S, n ≤ i) : Below n w w' := ⟨h.os, h.tape, h.output, h.size, fun i hi => h.block i hi (fun hh => by have := hs i hh; omega)⟩
theorem Lim.same {n lo hi : Nat} {S : List Nat} {w w' : World} (h : Lim n S w w') (hh : hi ≤ n) : Same lo hi S w w' := fun i _ h2 h3 => h.block i (by omega) h3
theorem Lim.setCell {n b o : Nat} {S : List Nat} {w : World} (v : Value) (hb : b ∈ S ∨ n ≤ b) : Lim n S w (w.setCell ⟨b, o, none⟩ v) :=
  ⟨rfl, rfl, rfl, by simp [World.setCell], fun i hi hs => Below.heap_setCell _ _ _ _ (by rintro rfl; rcases hb with hb | hb; exact hs hb; omega)⟩

/-- A map of ints without zeros. -/
def mapI (F : Int → Int) : Int → Option Value := fun x => if F x = 0 then none else some (.int .i64 (F x))

theorem mapI_getD (F : Int → Int) (x : Int) : (mapI F x).getD (.int .i64 0) = .int .i64 (F x) := by
  unfold mapI; split
  · rename_i h; rw [h]; rfl
  · rfl

def setI (F : Int → Int) (x v : Int) : Int → Int := fun y => if y = x then v else F y

theorem mapI_set {F : Int → Int} {x v : Int} (hv : v ≠ 0) : mapI (setI F x v) = upd (mapI F) x (some (.int .i64 v)) := by
  funext y; unfold mapI setI upd; split <;> simp_all
theorem mapI_del {F : Int → Int} {x : Int} : mapI (setI F x 0) = upd (mapI F) x none := by
  funext y; unfold mapI setI upd; split <;> simp_all

/-- The places of a Sources object, made when the heap had H blocks, done when it had T. -/
structure SP where
  H : Nat
  T : Nat
  b : Nat
  bh : Nat
  bu : Nat
  bf : Nat
  bk : Nat
  vn : Value
  vr : Value
  gh : Int → Option Value
  gu : Int → Option Value
  Rh : Int → List Int
  Ru : Int → List Int
  qh : Nat → Value
  qb : Nat → Value
  qw : Nat → Value

def SP.mut (s : SP) : List Nat := [s.b, s.bf, s.bk]

/-- The rules lie in v, their slices known. -/
def RulesAt (w : World) (v : Value) (l : List GR) (vh vb vw : Nat → Value) : Prop :=
  Rows w v 6 88 l.length (fun i => ruleCell (ixR l i) (vh i) (vb i) (vw i)) ∧ ∀ i, i < l.length → RuleSl w (ixR l i) (vh i) (vb i) (vw i)

/-- What never turns. -/
structure FixC (s : SP) (p : GP) (w : World) : Prop where
  names : Strs w s.vn p.names
  rulesA : RulesAt w s.vr p.rules s.qh s.qb s.qw
  heads : MapIs (Value.int .i64) w s.bh s.gh
  uses : MapIs (Value.int .i64) w s.bu s.gu
  headRow : ∀ x, Ints w ((s.gh x).getD nilS) (s.Rh x)
  useRow : ∀ x, Ints w ((s.gu x).getD nilS) (s.Ru x)

theorem FixC.rules {s : SP} {p : GP} {w : World} (h : FixC s p w) : RulesIs w s.vr p.rules := ⟨_, _, _, h.rulesA⟩

theorem FixC.cells {s : SP} {p : GP} {w : World} (h : FixC s p w) : ∃ a cap, s.vr = .slice a p.rules.length cap ∧ (0 < p.rules.length → ∃ b off, a = some ⟨b, off, none⟩ ∧ b < w.heap.size ∧ ∀ i, i < p.rules.length → RuleCells w b (off + i * 6) (ixR p.rules i) (s.qh i) (s.qb i) (s.qw i)) := by
  obtain ⟨a, cap, e, h1, hm, h2, h3⟩ := h.rulesA.1
  refine ⟨a, cap, e, fun hp => ?_⟩
  obtain ⟨b, off, e, hl, hc⟩ := h3 hp
  exact ⟨b, off, e, hl, fun i hi => ⟨hc i hi 0 (by omega), hc i hi 1 (by omega), hc i hi 2 (by omega), hc i hi 3 (by omega), hc i hi 4 (by omega), hc i hi 5 (by omega)⟩⟩

/-- What a Sources object holds; all of it in blocks below m. -/
structure Src (m : Nat) (s : SP) (p : GP) (F K : Int → Int) (clock : Int) (a : List Int) (w : World) : Prop where
  obj : ∃ va, Blk w s.b [.int .i64 p.n, s.vn, nilS, s.vr, nilS, .map (some s.bh), .map (some s.bu), .map (some s.bf), .map (some s.bk), .int .i64 clock, va] 54 ∧
    ∃ Ha Ta, s.T ≤ Ha ∧ Ta ≤ m ∧ ∀ w', Same Ha Ta [] w w' → w.heap.size ≤ w'.heap.size → Bytes8 w' va a
  frm : MapIs (Value.int .i64) w s.bf (mapI F)
  rank : MapIs (Value.int .i64) w s.bk (mapI K)
  ne : s.bf ≠ s.bk
  hi : s.b < s.T ∧ s.bf < s.T ∧ s.bk < s.T
  lo : s.H ≤ s.b ∧ s.H ≤ s.bf ∧ s.H ≤ s.bk
  top : s.T ≤ m ∧ m ≤ w.heap.size
  fix : ∀ w', Same s.H s.T s.mut w w' → w.heap.size ≤ w'.heap.size → FixC s p w'
  valid : validE p = 0
  rowsH : RowsAt (fun _ => true) (fun i => (ixR p.rules i).head) p.rules.length 0 s.Rh
  rowsU : RowsAt (fun x => decide (0 < x)) (fun i => (ixR p.rules i).body) p.rules.length 0 s.Ru
  fitF : ∀ x, InI (F x)
  fitK : ∀ x, InI (K x)
  fitC : 0 ≤ clock ∧ InI clock

section
variable {m : Nat} {s : SP} {p : GP} {F K : Int → Int} {clock : Int} {a : List Int} {w w' : World}

theorem Same.refl (lo hi : Nat) (S : List Nat) (w : World) : Same lo hi S w w := fun _ _ _ _ => rfl

theorem Src.now (h : Src m s p F K clock a w) : FixC s p w := h.fix w (Same.refl _ _ _ _) (Nat.le_refl _)

theorem Src.ne1 (h : Src m s p F K clock a w) : s.b ≠ s.bf ∧ s.b ≠ s.bk := by
  obtain ⟨va, ho, -⟩ := h.obj
  exact ⟨h.frm.blk ho, h.rank.blk ho⟩

/-- Whatever leaves the object's blocks alone keeps it. -/
theorem Src.keep (h : Src m s p F K clock a w) (hs : w.heap.size ≤ w'.heap.size) (hb : ∀ i, i < m → w'.heap[i]? = w.heap[i]?) : Src m s p F K clock a w' := by
  obtain ⟨va, ho, Ha, Ta, h1, h2, h3⟩ := h.obj
  have ht := h.top
  have hl := h.lo
  have hh := h.hi
  exact ⟨⟨va, ho.same (hb _ (by omega)), Ha, Ta, h1, by omega, fun w2 hw2 hz => h3 w2 (fun i i1 i2 i3 => (hw2 i i1 i2 i3).trans (hb i (by omega))) (by omega)⟩,
    h.frm.same (hb _ (by omega)), h.rank.same (hb _ (by omega)), h.ne, h.hi, h.lo, by omega,
    fun w2 hw2 hz => h.fix w2 (fun i i1 i2 i3 => (hw2 i i1 i2 i3).trans (hb i (by omega))) (by omega), h.valid, h.rowsH, h.rowsU, h.fitF, h.fitK, h.fitC⟩

theorem Src.below (h : Src m s p F K clock a w) (hb : Below w.heap.size w w') : Src m s p F K clock a w' :=
  h.keep hb.size fun i hi => hb.block i (by have := h.top; omega)

theorem Src.mono {m' : Nat} (h : Src m s p F K clock a w) (hm : m ≤ m') (hw : m' ≤ w.heap.size) : Src m' s p F K clock a w := by
  obtain ⟨va, ho, Ha, Ta, h1, h2, h3⟩ := h.obj
  exact ⟨⟨va, ho, Ha, Ta, h1, by omega, h3⟩, h.frm, h.rank, h.ne, h.hi, h.lo, ⟨by have := h.top; omega, hw⟩, h.fix, h.valid, h.rowsH, h.rowsU, h.fitF, h.fitK, h.fitC⟩

/-- A block of the object's own that may turn has turned. -/
theorem Src.turn {b : Nat} (h : Src m s p F K clock a w) (hg : w.grownBy w' (some b)) (hb : b ∈ s.mut) {F' K' : Int → Int} {clock' : Int}
    (ho : ∀ va, Blk w s.b [.int .i64 p.n, s.vn, nilS, s.vr, nilS, .map (some s.bh), .map (some s.bu), .map (some s.bf), .map (some s.bk), .int .i64 clock, va] 54 →
      Blk w' s.b [.int .i64 p.n, s.vn, nilS, s.vr, nilS, .map (some s.bh), .map (some s.bu), .map (some s.bf), .map (some s.bk), .int .i64 clock', va] 54)
    (hf : MapIs (Value.int .i64) w' s.bf (mapI F')) (hk : MapIs (Value.int .i64) w' s.bk (mapI K')) (fF : ∀ x, InI (F' x)) (fK : ∀ x, InI (K' x)) (fC : 0 ≤ clock' ∧ InI clock') : Src m s p F' K' clock' a w' := by
  obtain ⟨va, hob, Ha, Ta, h1, h2, h3⟩ := h.obj
  have ht := h.top
  have hh := h.hi
  have hbT : b < s.T := by
    simp only [SP.mut, List.mem_cons, List.not_mem_nil, or_false] at hb
    rcases hb with rfl | rfl | rfl <;> omega
  have hsz := hg.size
  exact ⟨⟨va, ho va hob, Ha, Ta, h1, h2, fun w2 hw2 hz => h3 w2 (fun i i1 i2 i3 => (hw2 i i1 i2 i3).trans (hg.block i (by omega) (fun e => by cases e; omega))) (by omega)⟩, hf, hk, h.ne, h.hi, h.lo, ⟨ht.1, by omega⟩,
    fun w2 hw2 hz => h.fix w2 (fun i i1 i2 i3 => (hw2 i i1 i2 i3).trans (hg.block i (by omega) (fun e => by cases e; exact i3 hb))) (by omega), h.valid, h.rowsH, h.rowsU, fF, fK, fC⟩

end

end Go.Proofs.Ytkjpnpkmnpofgaa
