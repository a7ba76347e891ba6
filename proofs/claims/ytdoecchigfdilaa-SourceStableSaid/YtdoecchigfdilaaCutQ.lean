/- SourceStable: disjunctions shortened to their first atoms. -/
import Derived.Test.YtdoecchigfdilaaStabPQ
import Derived.Test.YtdoecchigfdilaaMD
import Derived.Test.YtdoecchigfdilaaME
import Derived.Test.YtdoecchigfdilaaMC
namespace Go.Proofs.Ytdoecchigfdilaa
open Go.RowKit

def cutQ (r : GR) : Bool := !r.choice && decide (1 < r.head.length)
def GR.cut (r : GR) : GR := if cutQ r then { r with head := r.head.take 1 } else r
def GP.cut (p : GP) : GP := { p with rules := p.rules.map GR.cut }

theorem cut_len (p : GP) : p.cut.rules.length = p.rules.length := by simp [GP.cut]

theorem cut_at {p : GP} {k : Nat} (hk : k < p.rules.length) : ixR p.cut.rules k = (ixR p.rules k).cut := by
  simp [ixR, GP.cut, List.getD_eq_getElem?_getD, List.getElem?_eq_getElem hk]

theorem take_inc {l : List Int} {n : Int} (h : increasingB l n = true) : increasingB (l.take 1) n = true := by
  cases l with
  | nil => exact h
  | cons x l =>
    unfold increasingB orderedB at h ⊢
    simp only [Bool.and_eq_true] at h ⊢
    have h1 := allR_get h.1 0 (by simp)
    have h2 := allR_get h.2 0 (by simp)
    refine ⟨allR_true fun i hi => ?_, allR_true fun i hi => ?_⟩
    · obtain rfl : i = 0 := by simp at hi; omega
      exact h1
    · obtain rfl : i = 0 := by simp at hi; omega
      exact h2

theorem cut_rule {r : GR} {n : Int} (h : ruleE r n = 0) : ruleE r.cut n = 0 := by
  unfold GR.cut
  split
  · rename_i hq
    unfold cutQ at hq
    simp only [Bool.and_eq_true, Bool.not_eq_true', decide_eq_true_eq] at hq
    have hi : increasingB r.head n = true := by unfold ruleE at h; grind
    have ht := take_inc hi
    unfold ruleE at *
    simp only [ht, hq.1]
    grind
  · exact h

theorem cut_valid {p : GP} (h : validE p = 0) : validE p.cut = 0 := by
  refine valid_with h _ (by have := (validP h).rules; simpa using this) fun r hr => ?_
  obtain ⟨r0, h0, rfl⟩ := List.mem_map.1 hr
  exact cut_rule (valid_rules h r0 h0)

theorem cut_flat (p : GP) : flatP p.cut = true := by
  refine allR_true fun i hi => ?_
  rw [cut_len] at hi
  rw [cut_at hi]
  unfold GR.cut cutQ
  cases hc : (ixR p.rules i).choice with
  | true => simp [hc]
  | false =>
    by_cases h : 1 < (ixR p.rules i).head.length
    · simp [h]; omega
    · simp [h]; omega

theorem cut_small {p : GP} {m : List Int} (h : fewB p = true) : (redL p.cut m).length ≤ 40000 := by
  unfold fewB at h
  simp only [Bool.and_eq_true, decide_eq_true_eq] at h
  have hr := h.1.2
  have hh : ∀ i, i < p.cut.rules.length → (ixR p.cut.rules i).head.length ≤ 10 := fun i hi => by
    rw [cut_len] at hi
    rw [cut_at hi]
    have h1 := allR_get h.2 i hi
    simp only [fewAt, Bool.and_eq_true, decide_eq_true_eq] at h1
    unfold GR.cut
    split
    · simp; omega
    · omega
  have h1 := redTo_len (m := m) hh p.cut.rules.length (Nat.le_refl _)
  unfold redL
  rw [cut_len] at h1 ⊢
  omega

/-- The slice of the first atom. -/
def cutV (r : GR) (v : Value) : Value := if cutQ r then (match v with | .slice a _ c => .slice a 1 c | v => v) else v

theorem cutV_ints {w : World} {r : GR} {v : Value} (h : Ints w v r.head) : Ints w (cutV r v) r.cut.head := by
  unfold cutV GR.cut
  split
  · rename_i hq
    unfold cutQ at hq
    simp only [Bool.and_eq_true, decide_eq_true_eq] at hq
    obtain ⟨⟨a, c, rfl, h1, hm, h2, h3⟩, h4⟩ := h
    have hl : (r.head.take 1).length = 1 := by simp; omega
    have hx : ix (r.head.take 1) 0 = ix r.head 0 := by
      unfold ix
      simp [List.getD_eq_getElem?_getD, List.getElem?_take]
    refine ⟨?_, fun i => ?_⟩
    · show Sl w (.slice a 1 c) 8 (r.head.take 1).length _
      rw [hl]
      refine ⟨a, c, rfl, by omega, hm, by omega, fun _ => ?_⟩
      obtain ⟨b, off, e, hb, hc⟩ := h3 (by omega)
      refine ⟨b, off, e, hb, fun i hi => ?_⟩
      obtain rfl : i = 0 := by omega
      rw [hc 0 (by omega)]
      exact congrArg (fun x => some (Value.int .i64 x)) hx.symm
    · show _ ≤ ix (r.head.take 1) i ∧ ix (r.head.take 1) i ≤ _
      by_cases hi : i = 0
      · subst hi; rw [hx]; exact h4 0
      · have : ix (r.head.take 1) i = 0 := by
          unfold ix
          rw [List.getD_eq_getElem?_getD, List.getElem?_eq_none (by omega)]
          rfl
        rw [this]; omega
  · exact h

/-- The copy of the rules under way. -/
structure CutSt (p : GP) (w0 : World) (k : Nat) (ag : Option Addr) (cg : Nat) (vh vb vw : Nat → Value) (wx : World) : Prop where
  cap : p.rules.length ≤ cg ∧ cg ≤ maxLen
  rows : 0 < p.rules.length → ∃ g D, ag = some ⟨g, 0, none⟩ ∧ w0.heap.size ≤ g ∧ Blk wx g D 41 ∧ ∀ i, i < p.rules.length → ∀ j, j < 6 → D[i * 6 + j]? = some (ruleCell (ixR p.rules i) (if i < k then cutV (ixR p.rules i) (vh i) else vh i) (vb i) (vw i) j)
  below : Below w0.heap.size w0 wx

def CutRel (p : GP) (w0 : World) (ag : Option Addr) (cg : Nat) (vh vb vw : Nat → Value) (i : Value) (wx : World) : Prop := ∃ k : Nat, k ≤ p.rules.length ∧ i = .int .i64 k ∧ CutSt p w0 k ag cg vh vb vw wx

theorem CutSt.start {p : GP} {w0 w7 : World} {ag : Option Addr} {cg : Nat} {vh vb vw : Nat → Value}
    (hc : CopyPost p.rules vh vb vw (w0.alloc (.cells #[] 41)) w7 ag cg) : CutSt p w0 0 ag cg vh vb vw w7 := by
  obtain ⟨h1, h2, h3, h4⟩ := hc
  have hal := bal (Below.refl w0.heap.size w0) (.cells #[] 41)
  refine ⟨⟨h1, h2⟩, fun hp => ?_, bon hal h3⟩
  obtain ⟨D, e, hD, hc⟩ := h4 hp
  exact ⟨_, D, e, by simp, hD, fun i hi j hj => by rw [if_neg (Nat.not_lt_zero _)]; exact hc i hi j hj⟩

theorem CutSt.skip {p : GP} {w0 wx : World} {k cg : Nat} {ag : Option Addr} {vh vb vw : Nat → Value} (h : CutSt p w0 k ag cg vh vb vw wx) (hq : cutQ (ixR p.rules k) = false) (o : Obj) : CutSt p w0 (k + 1) ag cg vh vb vw (wx.alloc o) := by
  refine ⟨h.cap, fun hp => ?_, h.below.alloc h.below.size o⟩
  obtain ⟨g, D, e, hg, hD, hc⟩ := h.rows hp
  refine ⟨g, D, e, hg, hD.alloc o, fun i hi j hj => ?_⟩
  rw [hc i hi j hj]
  by_cases e2 : i = k
  · subst e2
    rw [if_neg (by omega), if_pos (by omega)]
    unfold cutV
    rw [hq]; rfl
  · by_cases e3 : i < k
    · rw [if_pos e3, if_pos (by omega)]
    · rw [if_neg e3, if_neg (by omega)]

theorem CutSt.step {p : GP} {w0 wx : World} {k g cg : Nat} {vh vb vw : Nat → Value} (h : CutSt p w0 k (some ⟨g, 0, none⟩) cg vh vb vw wx) (hk : k < p.rules.length) (hq : cutQ (ixR p.rules k) = true) {a : Option Addr} {n c : Nat} (hv : vh k = .slice a n c) (o : Obj) :
    CutSt p w0 (k + 1) (some ⟨g, 0, none⟩) cg vh vb vw ((wx.setCell ⟨g, k * 6 + 1, none⟩ (.slice a 1 c)).alloc o) := by
  obtain ⟨g', D, e, hg, hD, hc⟩ := h.rows (by omega)
  cases e
  have hb1 := h.below.setCell (p := ⟨g, k * 6 + 1, none⟩) hg (.slice a 1 c)
  refine ⟨h.cap, fun _ => ⟨g, _, rfl, hg, (hD.set (k * 6 + 1) _).alloc o, fun i hi j hj => ?_⟩, hb1.alloc hb1.size o⟩
  by_cases e : i * 6 + j = k * 6 + 1
  · obtain rfl : i = k := by omega
    obtain rfl : j = 1 := by omega
    have h1 := (List.getElem?_eq_some_iff.1 (hc i hi 1 (by omega))).1
    rw [List.getElem?_set_self h1, if_pos (by omega)]
    unfold cutV
    rw [hq, hv]; rfl
  · rw [List.getElem?_set_ne (by omega), hc i hi j hj]
    by_cases e2 : i = k
    · subst e2
      rw [if_neg (by omega), if_pos (by omega)]
      rcases (show j = 0 ∨ j = 2 ∨ j = 3 ∨ j = 4 ∨ j = 5 by omega) with rfl | rfl | rfl | rfl | rfl <;> rfl
    · by_cases e3 : i < k
      · rw [if_pos e3, if_pos (by omega)]
      · rw [if_neg e3, if_neg (by omega)]

theorem CutSt.rules {p : GP} {w w0 wx : World} {cg : Nat} {ag : Option Addr} {vh vb vw : Nat → Value} (h : CutSt p w0 p.rules.length ag cg vh vb vw wx) (hsl : ∀ i, i < p.rules.length → RuleSl w (ixR p.rules i) (vh i) (vb i) (vw i)) {W : World} (hW : ∀ g D, w0.heap.size ≤ g → Blk wx g D 41 → Blk W g D 41) (hb : Below w.heap.size w W) (hl : p.rules.length ≤ 40000) :
    RulesIs W (.slice ag p.rules.length cg) p.cut.rules := by
  refine ⟨fun i => cutV (ixR p.rules i) (vh i), vb, vw, ?_, fun i hi => ?_⟩
  · rw [cut_len]
    refine ⟨ag, cg, rfl, h.cap.1, h.cap.2, by omega, fun hp => ?_⟩
    obtain ⟨g, D, e, hg, hD, hc⟩ := h.rows hp
    have hDW := hW g D hg hD
    refine ⟨g, 0, e, hDW.lt, fun i hi j hj => ?_⟩
    rw [Nat.zero_add, hDW.cell, hc i hi j hj, if_pos hi]
    show some (ruleCell _ _ _ _ j) = some (ruleCell (ixR p.cut.rules i) _ _ _ j)
    rw [cut_at hi]
    unfold GR.cut
    split
    · rcases (show j = 0 ∨ j = 1 ∨ j = 2 ∨ j = 3 ∨ j = 4 ∨ j = 5 by omega) with rfl | rfl | rfl | rfl | rfl | rfl <;> rfl
    · rfl
  · rw [cut_len] at hi
    rw [cut_at hi]
    have h1 := (hsl i hi).below hb
    have e1 : (ixR p.rules i).cut.body = (ixR p.rules i).body := by unfold GR.cut; split <;> rfl
    have e2 : (ixR p.rules i).cut.w = (ixR p.rules i).w := by unfold GR.cut; split <;> rfl
    have e3 : (ixR p.rules i).cut.bound = (ixR p.rules i).bound := by unfold GR.cut; split <;> rfl
    exact ⟨cutV_ints h1.head, e1 ▸ h1.body, e2 ▸ h1.wts, e3 ▸ h1.bound⟩

end Go.Proofs.Ytdoecchigfdilaa
