/- reduct: the iterator reduced$1: what it leans on, what a round keeps. -/
import Derived.Test.YtdoecchigfdilaaRdc2Q
import Derived.Test.YtdoecchigfdilaaRngRQ
import Derived.Test.YtdoecchigfdilaaME
import Derived.Test.YtdoecchigfdilaaMC
import Derived.Shelf.Abstract
namespace Go.Proofs.Ytdoecchigfdilaa
open Go.RowKit

theorem QRow.of_own {base : Nat} {w : World} {v : Value} {l : List Int} (h : OwnI base w v l) : QRow base w v l := by
  obtain ⟨⟨⟨h1, h2⟩, h3⟩, h4⟩ := h
  refine ⟨h4, ?_⟩
  rcases h2 with ⟨rfl, e⟩ | ⟨g, cap, cur, rfl, hb, hg, hn, hm, hs, hx⟩
  · refine .inl ⟨rfl, ?_⟩
    have : l.length = 0 := e
    exact List.eq_nil_of_length_eq_zero this
  · refine .inr ⟨g, 0, cap, cur, rfl, hb, hg, hn, hm, by omega, fun i hi => ?_⟩
    have h5 : (cur.toList.take (l.length * 1))[i]? = some (.int .i64 (ix l i)) := by rw [hx]; simp [hi]
    rw [List.getElem?_take_of_lt (by omega)] at h5
    rw [Nat.zero_add]
    simpa using h5

/-- The block of the slice in the cell rb. -/
def rowOf (rb : Nat) (w : World) : Option Nat := (w.cell? ⟨rb, 0, none⟩).bind Value.ownBlock

/-- What the body of a round keeps: blocks of cells but rb and its row. -/
def CK (rb : Nat) (W W' : World) : Prop :=
  ((∀ g, rowOf rb W = some g → g < W.heap.size) → ∀ g, rowOf rb W' = some g → g < W'.heap.size) ∧
  ∀ i o, W.heap[i]? = some o → o.isCells = true → i ≠ rb → rowOf rb W ≠ some i → W'.heap[i]? = some o ∧ rowOf rb W' ≠ some i

theorem CK.trans {rb : Nat} {A B C : World} (h : CK rb A B) (k : CK rb B C) : CK rb A C :=
  ⟨fun h0 => k.1 (h.1 h0), fun i o h1 h2 h3 h4 => let ⟨h5, h6⟩ := h.2 i o h1 h2 h3 h4; k.2 i o h5 h2 h3 h6⟩

def RKp (n0 rb : Nat) (W W' : World) : Prop := Lim n0 [rb] W W' ∧ CK rb W W'

theorem rowOf_same {rb : Nat} {W W' : World} (h : W'.heap[rb]? = W.heap[rb]?) : rowOf rb W' = rowOf rb W := by
  unfold rowOf; rw [World.cell?_of_block h]

theorem RKp.trans {n0 rb : Nat} {A B C : World} (h : RKp n0 rb A B) (k : RKp n0 rb B C) : RKp n0 rb A C := ⟨h.1.trans k.1, h.2.trans k.2⟩

theorem CK.put {rb l : Nat} {W : World} {o o' : Obj} (h : W.heap[l]? = some o) (hc : o.isCells = false) (hne : l ≠ rb) : CK rb W (W.putObj l o') := by
  have hrb : (W.putObj l o').heap[rb]? = W.heap[rb]? := World.putObj_heap_other (fun e => hne e.symm)
  have hsz : (W.putObj l o').heap.size = W.heap.size := by simp [World.putObj]
  refine ⟨fun h0 g hg => ?_, fun i o1 h1 h2 h3 h4 => ⟨?_, ?_⟩⟩
  · rw [rowOf_same hrb] at hg; rw [hsz]; exact h0 g hg
  · refine (World.putObj_heap_other (fun e => ?_)).trans h1
    subst e
    rw [h] at h1
    cases h1
    rw [hc] at h2; cases h2
  · rw [rowOf_same hrb]; exact h4

theorem CK.below {rb : Nat} {W W' : World} (h : Below W.heap.size W W') (hrb : rb < W.heap.size) : CK rb W W' := by
  have hr := rowOf_same (h.block rb hrb)
  exact ⟨fun h0 g hg => by rw [hr] at hg; have := h0 g hg; have := h.size; omega, fun i o h1 h2 h3 h4 => ⟨(h.block i (Array.getElem?_eq_some_iff.1 h1).1).trans h1, by rw [hr]; exact h4⟩⟩

theorem CK.blk {rb : Nat} {W W' : World} (h : CK rb W W') {b : Nat} {c : List Value} {t : TypeId} (hb : Blk W b c t) (h1 : b ≠ rb) (h2 : rowOf rb W ≠ some b) : Blk W' b c t ∧ rowOf rb W' ≠ some b := h.2 b _ hb rfl h1 h2

/-- A row of ints of the iterator's own is kept. -/
theorem CK.row {rb base : Nat} {W W' : World} (h : CK rb W W') {v : Value} {l : List Int} (hq : QRow base W v l) (hrb : rb < base) (hf : ∀ i, v.ownBlock = some i → rowOf rb W ≠ some i) : QRow base W' v l ∧ ∀ i, v.ownBlock = some i → rowOf rb W' ≠ some i := by
  rcases hq.2 with ⟨rfl, rfl⟩ | ⟨g, off, cap, cur, rfl, hb, hg, r⟩
  · exact ⟨QRow.nil _ _, fun i e => by cases e⟩
  · have h1 := h.2 g _ hg rfl (by omega) (hf g rfl)
    exact ⟨⟨hq.1, .inr ⟨g, off, cap, cur, rfl, hb, h1.1, r⟩⟩, fun i e => by simp only [Value.ownBlock, Option.some.injEq] at e; subst e; exact h1.2⟩

/-- What the iterator leans on, at its start. -/
structure RedSt (wi w0 : World) (m : List Int) (pb fb mb rb : Nat) (vp : List Value) : Prop where
  below : Below wi.heap.size wi w0
  pb : Blk w0 pb vp 27
  fb : Blk w0 fb [.func (.func 93) #[] #[.pointer (some ⟨mb, 0, none⟩)]] 66
  inm : InM w0 mb m
  row : Blk w0 rb [.slice none 0 0] 24
  rlo : wi.heap.size ≤ rb

theorem Blk.lim {n rb b : Nat} {w w' : World} {c : List Value} {t : TypeId} (h : Blk w b c t) (hl : Lim n [rb] w w') (hb : b < n) (hne : b ≠ rb) : Blk w' b c t := h.same (hl.block b hb (by simpa using hne))

theorem Blk.ne_ty {w : World} {b b' : Nat} {c c' : List Value} {t t' : TypeId} (h : Blk w b c t) (k : Blk w b' c' t') (hne : t ≠ t') : b ≠ b' := fun e => by
  subst e
  unfold Blk at h k
  rw [h] at k
  injection k with k
  injection k with _ k _
  exact hne k

theorem MapIs.ne_blk {w : World} {bm b : Nat} {g : Int → Option Value} {c : List Value} {t : TypeId} (h : MapIs (Value.int .i64) w bm g) (k : Blk w b c t) : bm ≠ b := fun e => by
  subst e
  obtain ⟨es, clock, hm, -⟩ := h
  unfold Blk at k
  rw [hm] at k
  cases k

theorem InM.lim {w w' : World} {mb rb : Nat} {m : List Int} {c : List Value} (h : InM w mb m) (hr : Blk w rb c 24) (hl : Lim w.heap.size [rb] w w') : InM w' mb m := by
  obtain ⟨b, G, h1, h2, h3⟩ := h
  refine ⟨b, G, h1.lim hl h1.lt (h1.ne_ty hr (by decide)), h2.same (hl.block b h2.lt ?_), h3⟩
  simpa using MapIs.ne_blk h2 hr

/-- An element of the reduct in memory of its own. -/
def RedR (B : Nat) (q : RQ) (W : World) : Prop := q.1.choice = false ∧ QRow B W q.2.1 q.1.head ∧ QRow B W q.2.2.1 q.1.body ∧ QRow B W q.2.2.2 q.1.w ∧ InI q.1.bound
def redEnc (q : RQ) : Array Value := #[.agg #[.bool false, q.2.1, .bool q.1.sum, .int .i64 q.1.bound, q.2.2.1, q.2.2.2]]
def rqs (l : List RQ) : List GR := l.map (·.1)
theorem rqs_snoc (l : List RQ) (q : RQ) : rqs (l ++ [q]) = rqs l ++ [q.1] := by simp [rqs]
theorem rqs_len (l : List RQ) : (rqs l).length = l.length := by simp [rqs]

theorem red_form {m : List Int} {r x : GR} {n : Int} (hr : BodyW r n) (h : redB m r = some x) : x.choice = false ∧ x.head = [] ∧ InI x.bound := by
  have hb := hr.v.bound
  have hb1 := hr.bound
  unfold redB at h
  split at h
  · cases h
  · split at h
    · cases h
      exact ⟨rfl, rfl, by unfold InI emptyR; simp⟩
    · rename_i h1 h2
      cases h
      refine ⟨rfl, rfl, ?_⟩
      show InI (r.bound - (if r.sum then negW m r r.body.length else 0))
      cases hs : r.sum with
      | false => rw [if_neg (by simp)]; unfold InI; omega
      | true =>
        have hn := negW_nonneg (m := m) (fun k hk => by have := ((hr.wts hs).2 k hk).1; omega) _ (Nat.le_refl r.body.length)
        have : ¬ r.bound - negW m r r.body.length ≤ 0 := fun h => h2 ⟨hs, h⟩
        rw [if_pos rfl]; unfold InI; omega

theorem posOut_none {r : GR} {m : List Int} {w w' : World} {e : Ending} (h : redB m r = none) (hp : PosPost r m w e w') : e = .returned (.tuple #[.agg #[.bool false, .slice none 0 0, .bool false, .int .i64 0, .slice none 0 0, .slice none 0 0], .bool false]) ∧ Below w.heap.size w w' := by
  unfold PosPost at hp; rw [h] at hp; exact hp

theorem posOut_some {r x : GR} {m : List Int} {w w' : World} {e : Ending} (h : redB m r = some x) (hp : PosPost r m w e w') : ∃ a2 n2 c2 a3 n3 c3, e = .returned (.tuple #[.agg #[.bool false, .slice none 0 0, .bool x.sum, .int .i64 x.bound, .slice a2 n2 c2, .slice a3 n3 c3], .bool true]) ∧
    QRow w.heap.size w' (.slice a2 n2 c2) x.body ∧ QRow w.heap.size w' (.slice a3 n3 c3) x.w ∧ Below w.heap.size w w' := by
  unfold PosPost at hp; rw [h] at hp
  obtain ⟨va, vb, e1, h1, h2, h3⟩ := hp
  obtain ⟨a2, n2, c2, rfl⟩ := h1.form
  obtain ⟨a3, n3, c3, rfl⟩ := h2.form
  exact ⟨a2, n2, c2, a3, n3, c3, e1, h1, h2, h3⟩

/-- What comes of the first j heads of a choice. -/
def redCh (m : List Int) (x : GR) (hd : List Int) (j : Nat) : List GR := ((hd.take j).filter (fun a => decide (a ∈ m))).map (fun a => withHead x [a])

theorem redCh_in {m : List Int} {x : GR} {hd : List Int} {j : Nat} (hj : j < hd.length) (h : decide (ix hd j ∈ m) = true) : redCh m x hd (j + 1) = redCh m x hd j ++ [withHead x [ix hd j]] := by
  unfold redCh
  rw [take_ixM _ j hj, List.filter_append, List.map_append, List.filter_cons_of_pos (by simpa using h)]
  rfl
theorem redCh_out {m : List Int} {x : GR} {hd : List Int} {j : Nat} (hj : j < hd.length) (h : decide (ix hd j ∈ m) = false) : redCh m x hd (j + 1) = redCh m x hd j := by
  unfold redCh
  rw [take_ixM _ j hj, List.filter_append, List.map_append, List.filter_cons_of_neg (by simpa using h)]
  simp

theorem redTo_choice {p : GP} {m : List Int} {k : Nat} {x : GR} (h : redB m (ixR p.rules k) = some x) (hc : (ixR p.rules k).choice = true) : redTo p m (k + 1) = redTo p m k ++ redCh m x (ixR p.rules k).head (ixR p.rules k).head.length := by
  rw [redTo, redR, h, hc]
  unfold redCh
  rw [List.take_length]
  rfl
theorem redTo_plain {p : GP} {m : List Int} {k : Nat} {x : GR} (h : redB m (ixR p.rules k) = some x) (hc : (ixR p.rules k).choice = false) : redTo p m (k + 1) = redTo p m k ++ [withHead x (ixR p.rules k).head] := by
  rw [redTo, redR, h, hc]
  rfl
theorem redTo_none {p : GP} {m : List Int} {k : Nat} (h : redB m (ixR p.rules k) = none) : redTo p m (k + 1) = redTo p m k := by
  rw [redTo, redR, h]
  simp

theorem redTo_mono {p : GP} {m : List Int} : ∀ n k, k ≤ n → (redTo p m k).length ≤ (redTo p m n).length
  | 0, k, h => by obtain rfl : k = 0 := by omega
                  exact Nat.le_refl _
  | n + 1, k, h => by
    by_cases e : k = n + 1
    · subst e; exact Nat.le_refl _
    · have := redTo_mono (p := p) (m := m) n k (by omega)
      have e2 : redTo p m (n + 1) = redTo p m n ++ redR m (ixR p.rules n) := rfl
      rw [e2, List.length_append]; omega

theorem redCh_le (m : List Int) (x : GR) (hd : List Int) (j : Nat) : (redCh m x hd j).length ≤ (redCh m x hd hd.length).length := by
  unfold redCh
  rw [List.length_map, List.length_map, List.take_length]
  exact (List.take_sublist j hd).filter _ |>.length_le

theorem QRow.boxed {base : Nat} {w2 w4 : World} {v : Value} {l : List Int} (h : QRow base w2 v l) (hb : Below w2.heap.size w2 w4) (o : Nat) (u : Value) : QRow base (w4.setCell ⟨w2.heap.size, o, none⟩ u) v l :=
  h.kept fun i _ hi _ => (Below.heap_setCell _ _ _ _ (show i ≠ w2.heap.size by omega)).trans (hb.block i hi)

end Go.Proofs.Ytdoecchigfdilaa
