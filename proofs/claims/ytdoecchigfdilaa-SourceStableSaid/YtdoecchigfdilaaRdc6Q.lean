/- reduct.Reduct: what the loop over the iterator keeps. -/
import Derived.Test.YtdoecchigfdilaaRdc3Q
import Derived.Test.YtdoecchigfdilaaRngRQ
import Derived.Test.YtdoecchigfdilaaMC
import Derived.Maps.OwnIn
namespace Go.Proofs.Ytdoecchigfdilaa
open Go.RowKit

set_option maxHeartbeats 1000000 in
theorem reduced_any (n : Int) (vn vs vm : Value) (r4 : Option Addr) (n3 c3 : Nat) (mb : Nat) (w : World) :
    Calls Try.prog 86 #[.agg #[.int .i64 n, vn, vs, (.slice r4 n3 c3), vm], .func (.func 93) #[] #[.pointer (some ⟨mb, 0, none⟩)]] w fun e w' => e = .returned (.func (.func 103) #[] #[.pointer (some ⟨w.heap.size, 0, none⟩), .pointer (some ⟨w.heap.size + 1, 0, none⟩)]) ∧
      Below w.heap.size w w' ∧ Blk w' w.heap.size [.int .i64 n, vn, vs, (.slice r4 n3 c3), vm] 27 ∧ Blk w' (w.heap.size + 1) [.func (.func 93) #[] #[.pointer (some ⟨mb, 0, none⟩)]] 66 := by
  have h1 := Blk.new w [.int .i64 n, vn, vs, (.slice r4 n3 c3), vm] 27
  have hb : Below w.heap.size w ((w.alloc (.cells #[.int .i64 n, vn, vs, (.slice r4 n3 c3), vm] 27)).alloc (.cells #[.func (.func 93) #[] #[.pointer (some ⟨mb, 0, none⟩)]] 66)) := bal (bal (Below.refl _ _) _) _
  have h2 : Blk ((w.alloc (.cells #[.int .i64 n, vn, vs, (.slice r4 n3 c3), vm] 27)).alloc (.cells #[.func (.func 93) #[] #[.pointer (some ⟨mb, 0, none⟩)]] 66)) w.heap.size [.int .i64 n, vn, vs, (.slice r4 n3 c3), vm] 27 := h1.alloc _
  have h3 := Blk.new2 w (.cells #[.int .i64 n, vn, vs, (.slice r4 n3 c3), vm] 27) [.func (.func 93) #[] #[.pointer (some ⟨mb, 0, none⟩)]] 66
  clear h1
  have H2 := Lib.hid h2
  have H3 := Lib.hid h3
  have HB := Lib.hid hb
  clear h2 h3 hb
  go_enter Try.func86, Try.ntmps86
  go_wp2
  go_ret
  exact ⟨rfl, HB.out, H2.out, H3.out⟩

section
variable {B : Nat} {w w' : World}

theorem QRow.ownT {v : Value} {l : List Int} {row : Option Nat} (h : QRow B w v l) (hg : w.grownBy w' row) (hr : ∀ r, row = some r → ∃ o : Obj, w.heap[r]? = some o ∧ o.isCells = false) : QRow B w' v l := by
  rcases h.2 with ⟨rfl, rfl⟩ | ⟨g, off, cap, cur, rfl, hb, hc, r⟩
  · exact QRow.nil _ _
  · refine h.kept fun i _ hi e => hg.block i hi (fun e2 => ?_)
    simp only [Value.ownBlock, Option.some.injEq] at e
    subst e
    obtain ⟨o, ho, hf⟩ := hr g e2.symm
    rw [hc] at ho
    cases ho
    cases hf

theorem Blk.ownT {b : Nat} {c : List Value} {t : TypeId} {row : Option Nat} (h : Blk w b c t) (hg : w.grownBy w' row) (hr : ∀ r, row = some r → ∃ o : Obj, w.heap[r]? = some o ∧ o.isCells = false) : Blk w' b c t :=
  h.same (hg.block b h.lt (fun e2 => by
    obtain ⟨o, ho, hf⟩ := hr b e2.symm
    rw [show w.heap[b]? = _ from h] at ho
    cases ho
    cases hf))

theorem Mine.ownT {v : Value} {L : List RQ} {row : Option Nat} (h : Mine B v L w) (hg : w.grownBy w' row) (hr : ∀ r, row = some r → ∃ o : Obj, w.heap[r]? = some o ∧ o.isCells = false) : Mine B v L w' := by
  refine ⟨h.row.kept hg ?_, fun q hq => let ⟨h1, h2, h3, h4⟩ := h.each q hq; ⟨h1.ownT hg hr, h2.ownT hg hr, h3.ownT hg hr, h4⟩⟩
  rcases h.row.2 with ⟨e, _⟩ | ⟨g, cap, cur, e, _, hgg, _⟩
  · exact .inl (by rw [e]; rfl)
  · refine .inr (fun e2 => ?_)
    rw [e] at e2
    simp only [Value.ownBlock] at e2
    obtain ⟨o, ho, hf⟩ := hr g e2.symm
    rw [hgg] at ho
    cases ho
    cases hf

theorem RedR.ownT {q : RQ} {row : Option Nat} (h : RedR B q w) (hg : w.grownBy w' row) (hr : ∀ r, row = some r → ∃ o : Obj, w.heap[r]? = some o ∧ o.isCells = false) : RedR B q w' :=
  ⟨h.1, h.2.1.ownT hg hr, h.2.2.1.ownT hg hr, h.2.2.2.1.ownT hg hr, h.2.2.2.2⟩

theorem RedR.below {q : RQ} (h : RedR B q w) (hb : Below w.heap.size w w') : RedR B q w' :=
  ⟨h.1, h.2.1.below hb, h.2.2.1.below hb, h.2.2.2.1.below hb, h.2.2.2.2⟩
end

/-- The list under way: in the cell rb. -/
def RdI (rb B N : Nat) (w : World) (pre : List RQ) (W : World) : Prop :=
  ∃ a n c, Blk W rb [.slice a n c] 24 ∧ Mine B (.slice a n c) pre W ∧ Below N w W ∧ B ≤ W.heap.size

theorem RdI.own {rb B N Z : Nat} {w : World} (hN : N ≤ w.heap.size) (hZ : N ≤ Z) : OwnFrom Z (RdI rb B N w) := fun pre X Y row h hg hr => by
  obtain ⟨a, n, c, h1, h2, h3, h4⟩ := h
  have hr' := fun r e => (hr r e).2
  exact ⟨a, n, c, h1.ownT hg hr', h2.ownT hg hr', (ownFrom_below (β := Unit) hN hZ) () X Y row h3 hg hr, Nat.le_trans h4 hg.size⟩

theorem red_push {rb B N Z : Nat} {w W w1 : World} {a : Option Addr} {n c : Nat} {pre : List RQ} {q : RQ} {tmp : Obj} {v' : Value} (hrb : rb < B) (hB : B ≤ W.heap.size) (hN : N ≤ rb) (hW : N ≤ w.heap.size)
    (hb : Blk W rb [.slice a n c] 24) (hm : Mine B (.slice a n c) pre W) (hw : Below N w W) (hq : RedR B q W)
    (hown : w1.ownsRow B 41 6 v' (pre.length + 1) (pre.flatMap cells6 ++ cells6 q)) (hg : (W.alloc tmp).grownBy w1 (Value.slice a n c).ownBlock)
    (hat : v'.ownBlock = (Value.slice a n c).ownBlock ∨ v'.ownBlock = some (W.alloc tmp).heap.size) :
    Blk w1 rb [.slice a n c] 24 ∧ (KeepsFrom Z W (w1.setCell ⟨rb, 0, none⟩ v') ∧ RKp B rb W (w1.setCell ⟨rb, 0, none⟩ v') ∧ RdI rb B N w (pre ++ [q]) (w1.setCell ⟨rb, 0, none⟩ v')) := by
  have hz : W.heap.size ≤ w1.heap.size := by have := hg.size; simp at this; omega
  have hrow : ∀ g, (Value.slice a n c).ownBlock = some g → B ≤ g ∧ ∃ o : Obj, W.heap[g]? = some o ∧ o.isCells = true := fun g e => by
    rcases hm.row.2 with ⟨e1, _⟩ | ⟨g', cap, cur, e1, hb', hgg, _⟩
    · rw [e1] at e; cases e
    · rw [e1] at e
      simp only [Value.ownBlock, Option.some.injEq] at e
      subst e
      exact ⟨hb', _, hgg, rfl⟩
  have hkeep : ∀ i, i < W.heap.size → (Value.slice a n c).ownBlock ≠ some i → w1.heap[i]? = W.heap[i]? := fun i hi hne =>
    (hg.block i (by simp; omega) (fun e => hne e.symm)).trans (Below.heap_alloc _ _ _ hi)
  have hb1 : Blk w1 rb [.slice a n c] 24 := hb.same (hkeep rb hb.lt (fun e => by have := (hrow _ e).1; omega))
  obtain ⟨g, cap, rfl⟩ := ownsRow_succ hown
  have hglt : g < w1.heap.size ∧ B ≤ g := by
    rcases hown.2 with ⟨e, _⟩ | ⟨g', cap', cur, e, hb', hgg, _⟩
    · cases e
    · simp only [Value.slice.injEq, Option.some.injEq, Addr.mk.injEq, and_true] at e
      obtain ⟨rfl, -⟩ := e
      exact ⟨(Array.getElem?_eq_some_iff.1 hgg).1, hb'⟩
  have hmp := (hm.below (bal (Below.refl W.heap.size W) tmp)).push (q := q) (w' := w1) (g := g) (cap := cap) ⟨hq.2.1.below (bal (Below.refl _ _) _), hq.2.2.1.below (bal (Below.refl _ _) _), hq.2.2.2.1.below (bal (Below.refl _ _) _), hq.2.2.2.2⟩ hown hg
  have hset : ∀ i, i ≠ rb → (w1.setCell ⟨rb, 0, none⟩ (.slice (some ⟨g, 0, none⟩) (pre.length + 1) cap)).heap[i]? = w1.heap[i]? := fun i hi => Below.heap_setCell _ _ _ _ hi
  have hsz : (w1.setCell ⟨rb, 0, none⟩ (.slice (some ⟨g, 0, none⟩) (pre.length + 1) cap)).heap.size = w1.heap.size := by simp [World.setCell]
  have hb3 : Blk (w1.setCell ⟨rb, 0, none⟩ (.slice (some ⟨g, 0, none⟩) (pre.length + 1) cap)) rb [.slice (some ⟨g, 0, none⟩) (pre.length + 1) cap] 24 := hb1.set 0 _
  have hlim : Lim B [rb] W (w1.setCell ⟨rb, 0, none⟩ (.slice (some ⟨g, 0, none⟩) (pre.length + 1) cap)) :=
    ⟨hg.os, hg.tape, hg.output, by rw [hsz]; exact hz, fun i hi hs => (hset i (by simpa using hs)).trans (hkeep i (by omega) (fun e => by have := (hrow _ e).1; omega))⟩
  refine ⟨hb1, (((KeepsOthers.alloc W tmp).trans (KeepsOthers.of_grownBy hg fun j o ej hj => ?_)).trans (KeepsOthers.setCell _ _ _)).from _, ⟨hlim, ?_, ?_⟩, _, _, _, hb3, hmp.setCell 0 _ hrb, ?_, by rw [hsz]; omega⟩
  · obtain ⟨_, o2, ho2, hc2⟩ := hrow j ej
    rw [Below.heap_alloc _ _ _ (Array.getElem?_eq_some_iff.1 ho2).1, ho2] at hj
    cases hj; exact hc2
  · intro _ g2 hg2
    unfold rowOf at hg2
    rw [hb3.cell 0] at hg2
    simp only [List.getElem?_cons_zero, Option.bind_some, Value.ownBlock, Option.some.injEq] at hg2
    subst hg2
    rw [hsz]; exact hglt.1
  · intro i o hi ho hne hrw
    have hilt := (Array.getElem?_eq_some_iff.1 hi).1
    have hrw' : (Value.slice a n c).ownBlock ≠ some i := by
      unfold rowOf at hrw
      rw [hb.cell 0] at hrw
      simpa using hrw
    refine ⟨(hset i hne).trans ((hkeep i hilt hrw').trans hi), fun e => ?_⟩
    unfold rowOf at e
    rw [hb3.cell 0] at e
    simp only [List.getElem?_cons_zero, Option.bind_some] at e
    rcases hat with h | h
    · exact hrw' (h.symm.trans e)
    · rw [e] at h
      simp only [World.size_alloc, Option.some.injEq] at h
      omega
  · exact hw.trans ⟨hg.os, hg.tape, hg.output, by rw [hsz]; exact hz, fun i hi => (hset i (by omega)).trans (hkeep i (by have := hw.size; omega) (fun e => by have := (hrow _ e).1; omega))⟩

/-- The rows of the reduct are small. -/
theorem redL_mem {p : GP} {m : List Int} : ∀ k, k ≤ p.rules.length → ∀ x ∈ redTo p m k, ∃ i y, i < p.rules.length ∧ redB m (ixR p.rules i) = some y ∧ x.body = y.body ∧ x.w = y.w ∧ (x.head = (ixR p.rules i).head ∨ x.head.length = 1)
  | 0, _, x, hx => by simp [redTo] at hx
  | k + 1, hk, x, hx => by
    cases hr : redB m (ixR p.rules k) with
    | none => rw [redTo_none hr] at hx; exact redL_mem k (by omega) x hx
    | some y =>
      cases hc : (ixR p.rules k).choice with
      | false =>
        rw [redTo_plain hr hc] at hx
        rcases List.mem_append.1 hx with hx | hx
        · exact redL_mem k (by omega) x hx
        · obtain rfl := List.mem_singleton.1 hx
          exact ⟨k, y, by omega, hr, rfl, rfl, .inl rfl⟩
      | true =>
        rw [redTo_choice hr hc] at hx
        rcases List.mem_append.1 hx with hx | hx
        · exact redL_mem k (by omega) x hx
        · unfold redCh at hx
          obtain ⟨a, -, rfl⟩ := List.mem_map.1 hx
          exact ⟨k, y, by omega, hr, rfl, rfl, .inr rfl⟩

end Go.Proofs.Ytdoecchigfdilaa
