/- reduct: the iterator reduced$1, the choice rules: what the rounds over the heads keep. -/
import Derived.Test.YtdoecchigfdilaaRdc3Q
import Derived.Test.YtdoecchigfdilaaMB
namespace Go.Proofs.Ytdoecchigfdilaa
open Go.RowKit

theorem red_len {m : List Int} {r x : GR} (h : redB m r = some x) : x.body.length ≤ r.body.length ∧ x.w.length ≤ r.body.length := by
  have hp := posP_len r r.body.length
  unfold redB at h
  split at h
  · cases h
  · split at h
    · cases h
      simp [emptyR]
    · cases h
      refine ⟨by show (fstL _).length ≤ _; rw [fstL]; simpa using hp, ?_⟩
      show (if r.sum then sndL (posP r r.body.length) else []).length ≤ _
      split
      · rw [sndL]; simpa using hp
      · simp

/-- What a round over the heads of a choice keeps. -/
structure ChSt (rb n1 t5 t6 : Nat) (c5 c6 : List Value) (va vb : Value) (lb lw : List Int) (wy : World) : Prop where
  row : ∀ g, rowOf rb wy = some g → g < wy.heap.size
  b5 : Blk wy t5 c5 41
  n5 : rowOf rb wy ≠ some t5
  b6 : Blk wy t6 c6 41
  n6 : rowOf rb wy ≠ some t6
  qa : QRow n1 wy va lb
  na : ∀ i, va.ownBlock = some i → rowOf rb wy ≠ some i
  qb : QRow n1 wy vb lw
  nb : ∀ i, vb.ownBlock = some i → rowOf rb wy ≠ some i
  lo : rb < n1
  l5 : rb < t5
  l6 : rb < t6
  top : n1 ≤ wy.heap.size

theorem ChSt.ck {rb n1 t5 t6 : Nat} {c5 c6 : List Value} {va vb : Value} {lb lw : List Int} {wy wz : World} (h : ChSt rb n1 t5 t6 c5 c6 va vb lb lw wy) (k : CK rb wy wz) (hz : wy.heap.size ≤ wz.heap.size) : ChSt rb n1 t5 t6 c5 c6 va vb lb lw wz := by
  have h5 := h.l5
  have h6 := h.l6
  have ht := h.top
  have e5 := k.blk h.b5 (by omega) h.n5
  have e6 := k.blk h.b6 (by omega) h.n6
  have ea := k.row h.qa h.lo h.na
  have eb := k.row h.qb h.lo h.nb
  exact ⟨k.1 h.row, e5.1, e5.2, e6.1, e6.2, ea.1, ea.2, eb.1, eb.2, h.lo, h5, h6, by omega⟩

theorem ChSt.below {rb n1 t5 t6 : Nat} {c5 c6 : List Value} {va vb : Value} {lb lw : List Int} {wy wz : World} (h : ChSt rb n1 t5 t6 c5 c6 va vb lb lw wy) (k : Below wy.heap.size wy wz) : ChSt rb n1 t5 t6 c5 c6 va vb lb lw wz :=
  h.ck (CK.below k (by have := h.lo; have := h.top; omega)) k.size

theorem QRow.one {base g : Nat} {w : World} {a : Int} (h : Blk w g [.int .i64 a] 3) (hb : base ≤ g) (ha : InI a) : QRow base w (.slice (some ⟨g, 0, none⟩) 1 1) [a] := by
  refine ⟨fun i => ?_, .inr ⟨g, 0, 1, #[.int .i64 a], rfl, hb, h, by simp, by unfold maxLen; omega, by simp, fun i hi => ?_⟩⟩
  · cases i with
    | zero => exact ha
    | succ i => simp [ix]
  · obtain rfl : i = 0 := by simp at hi; omega
    rfl

/-- What the operations ahead of a yield leave. -/
def chΦ (base : Nat) (a : Int) (x : GR) : Nat → List Value → Value → Nat → Nat → World → Prop
  | 1, _, v, _, _, w => ∃ a1 c, v = .slice a1 1 c ∧ QRow base w v [a]
  | 4, _, v, _, _, w => ∃ a1 c, v = .slice a1 x.body.length c ∧ QRow base w v x.body
  | _, _, v, _, _, w => ∃ a1 c, v = .slice a1 x.w.length c ∧ QRow base w v x.w

theorem chΦ_later (base : Nat) (a : Int) (x : GR) : ∀ i args v lo hi w w', chΦ base a x i args v lo hi w → Below w.heap.size w w' → chΦ base a x i args v lo hi w' := by
  intro i args v lo hi w w' h hb
  unfold chΦ at *
  split at h
  · obtain ⟨a, c, e, h⟩ := h; exact ⟨a, c, e, h.below hb⟩
  · obtain ⟨a, c, e, h⟩ := h; exact ⟨a, c, e, h.below hb⟩
  · obtain ⟨a, c, e, h⟩ := h; exact ⟨a, c, e, h.below hb⟩

def ChSlots (p : GP) (m : List Int) (n0 rb k : Nat) (x : GR) (hd : List Int) (W0 : World) (J : List RQ → World → Prop) (S : World → Prop) (i : Value) (wy : World) : Prop :=
  ∃ (j : Nat) (pre : List RQ), j ≤ hd.length ∧ i = .int .i64 j ∧ rqs pre = redTo p m k ++ redCh m x hd j ∧ J pre wy ∧ Lim n0 [rb] W0 wy ∧ S wy

theorem ch_len {p : GP} {m : List Int} {k : Nat} {x : GR} (h : redB m (ixR p.rules k) = some x) (hc : (ixR p.rules k).choice = true) (hk : k < p.rules.length) {j : Nat} (hj : j < (ixR p.rules k).head.length) (hm : decide (ix (ixR p.rules k).head j ∈ m) = true) {pre : List RQ}
    (hp : rqs pre = redTo p m k ++ redCh m x (ixR p.rules k).head j) : pre.length < (redL p m).length := by
  have h1 := redTo_mono (p := p) (m := m) p.rules.length (k + 1) (by omega)
  have h2 := redCh_le m x (ixR p.rules k).head (j + 1)
  have h3 := congrArg List.length hp
  rw [redTo_choice h hc, List.length_append] at h1
  rw [redCh_in hj hm, List.length_append, List.length_singleton] at h2
  rw [rqs_len, List.length_append] at h3
  unfold redL
  omega

end Go.Proofs.Ytdoecchigfdilaa
