/- source.New: invalid programs; what a valid one yields, as a Sources object. -/
import Derived.Test.YtkjpnpkmnpofgaaNew1
import Derived.Test.YtkjpnpkmnpofgaaSrcSt
namespace Go.Proofs.Ytkjpnpkmnpofgaa
open Go.RowKit

theorem flat6 : ∀ (L : List RQ) (i j : Nat), i < L.length → j < 6 → (L.flatMap cells6)[i * 6 + j]? = (cells6 (L.getD i default))[j]?
  | [], i, j, hi, _ => absurd hi (Nat.not_lt_zero _)
  | q :: L, 0, j, _, hj => by
    rw [List.flatMap_cons, List.getElem?_append_left (by simp [cells6]; omega)]
    simp
  | q :: L, i + 1, j, hi, hj => by
    rw [List.flatMap_cons, List.getElem?_append_right (by simp [cells6]; omega)]
    have : (i + 1) * 6 + j - (cells6 q).length = i * 6 + j := by simp [cells6]; omega
    rw [this, flat6 L i j (by simpa using hi) hj]
    simp

section
variable {κ : Nat → Tg} {t : Tg} {w w' : World} {H : Nat}

theorem rowSame {E size n : Nat} {xs : List Value} {v : Value} (h : w.ownsRow H E size v n xs) (hc : Col κ t v) (hs : ∀ i, H ≤ i → i < w.heap.size → κ i = t → w'.heap[i]? = w.heap[i]?) : w'.ownsRow H E size v n xs := by
  refine ⟨h.1, ?_⟩
  rcases h.2 with hn | ⟨g, cap, cur, rfl, hb, hgg, rest⟩
  · exact .inl hn
  · exact .inr ⟨g, cap, cur, rfl, hb, (hs g hb (Array.getElem?_eq_some_iff.1 hgg).1 (hc g rfl)).trans hgg, rest⟩

theorem OwnI.sameC {v : Value} {l : List Int} (h : OwnI H w v l) (hc : Col κ t v) (hs : ∀ i, H ≤ i → i < w.heap.size → κ i = t → w'.heap[i]? = w.heap[i]?) : OwnI H w' v l := ⟨⟨rowSame h.1.1 hc hs, h.1.2⟩, h.2⟩

theorem RulesOwn.rulesA {v : Value} {L : List RQ} (h : RulesOwn κ H v L w) (l : List GR) (hl : L.map (·.1) = l) : RulesAt w v l (fun i => (L.getD i default).2.1) (fun i => (L.getD i default).2.2.1) (fun i => (L.getD i default).2.2.2) := by
  have hlen : l.length = L.length := by rw [← hl]; simp
  have hq : ∀ i, i < l.length → L.getD i default ∈ L ∧ (L.getD i default).1 = ixR l i := fun i hi => by
    have hi' : i < L.length := by omega
    have e : L.getD i default = L[i] := by simp [List.getD_eq_getElem?_getD, List.getElem?_eq_getElem hi']
    rw [e]
    refine ⟨List.getElem_mem hi', ?_⟩
    subst hl
    simp [ixR, List.getD_eq_getElem?_getD, List.getElem?_eq_getElem hi']
  refine ⟨?_, fun i hi => ?_⟩
  · rw [hlen]
    rcases h.row.2 with ⟨rfl, h0⟩ | ⟨g, cap, cur, rfl, hb, hg, hn, hm, hs, hx⟩
    · exact ⟨none, 0, by rw [h0], by omega, by unfold maxLen; omega, by omega, fun hp => by omega⟩
    · refine ⟨_, cap, rfl, hn, hm, h.fit, fun _ => ⟨g, 0, rfl, (Array.getElem?_eq_some_iff.1 hg).1, fun i hi j hj => ?_⟩⟩
      have h6 := flat6 L i j hi hj
      rw [← hx, List.getElem?_take_of_lt (by omega)] at h6
      rw [cell_of_row w g (0 + i * 6 + j) cur _ (0, 0) hg, Nat.zero_add]
      have e2 := (hq i (by omega)).2
      dsimp only
      rw [← e2]
      have : cur[i * 6 + j]? = cur.toList[i * 6 + j]? := by simp
      rw [this, h6]
      rcases (show j = 0 ∨ j = 1 ∨ j = 2 ∨ j = 3 ∨ j = 4 ∨ j = 5 by omega) with rfl | rfl | rfl | rfl | rfl | rfl <;> rfl
  · obtain ⟨hm, e⟩ := hq i hi
    have := h.each _ hm
    rw [← e]
    exact ⟨this.head.ints, this.body.ints, this.wts.ints, this.bound⟩

end

/-- What source.New yields is a Sources object. -/
theorem NewSt.src {p : GP} {w : World} {b : Nat} {wx : World} (h : NewSt p w b p.rules.length p.rules.length 0 0 [] wx) (hv : validE p = 0) :
    Below w.heap.size w wx ∧ w.heap.size ≤ b ∧ ∃ s : SP, s.b = b ∧ s.H = w.heap.size ∧ s.T = wx.heap.size ∧ Src wx.heap.size s p (fun _ => 0) (fun _ => 0) 0 [] wx := by
  obtain ⟨κ, bh, bu, bf, bk, vn, vr, gh, gu, Rh, Ru, L, hns, hL, hRh, hRu, hbw⟩ := h
  refine ⟨hbw, hns.lo.1, ⟨w.heap.size, wx.heap.size, b, bh, bu, bf, bk, vn, vr, gh, gu, Rh, Ru, fun i => (L.getD i default).2.1, fun i => (L.getD i default).2.2.1, fun i => (L.getD i default).2.2.2⟩, rfl, rfl, rfl, ?_⟩
  have m0 : mapI (fun _ => 0) = fun _ => none := by funext x; simp [mapI]
  have hne : bf ≠ bk := fun e => by have h1 := hns.frmk; have h2 := hns.rankk; rw [e, h2] at h1; cases h1
  refine ⟨⟨nilS, hns.obj, wx.heap.size, wx.heap.size, Nat.le_refl _, Nat.le_refl _, fun w' _ _ => ⟨⟨none, 0, rfl, Nat.le_refl _, by unfold maxLen; omega, by simp, fun h0 => absurd h0 (by simp)⟩, fun i => by simp [ix]⟩⟩,
    by rw [m0]; exact hns.frm, by rw [m0]; exact hns.rank, hne, ⟨hns.obj.lt, hns.frm.lt, hns.rank.lt⟩, ⟨hns.lo.1, hns.lo.2.2.2.1, hns.lo.2.2.2.2⟩, ⟨Nat.le_refl _, Nat.le_refl _⟩, fun w' hs hz => ?_, hv, hRh, hRu,
    fun _ => by unfold InI; omega, fun _ => by unfold InI; omega, by unfold InI; omega⟩
  have hsame : ∀ t, t ≠ .obj → t ≠ .fm → t ≠ .km → ∀ i, w.heap.size ≤ i → i < wx.heap.size → κ i = t → w'.heap[i]? = wx.heap[i]? := fun t h1 h2 h3 i i1 i2 hk => by
    refine hs i i1 i2 (fun hm => ?_)
    simp only [SP.mut, List.mem_cons, List.not_mem_nil, or_false] at hm
    rcases hm with rfl | rfl | rfl
    · exact h1 (hk.symm.trans hns.objk)
    · exact h2 (hk.symm.trans hns.frmk)
    · exact h3 (hk.symm.trans hns.rankk)
  have hro := hsame .ro (by simp) (by simp) (by simp)
  have hL' : L.map (·.1) = p.rules := by rw [hL]; simp
  have hrl : RulesOwn κ w.heap.size vr L w' := ⟨rowSame hns.rules.row hns.rules.rowk (hsame .rules (by simp) (by simp) (by simp)), hns.rules.rowk, fun q hq => (by
    have := hns.rules.each q hq
    exact ⟨this.head.sameC this.headk hro, this.body.sameC this.bodyk hro, this.wts.sameC this.wtsk hro, this.bound, this.headk, this.bodyk, this.wtsk⟩), hns.rules.fit⟩
  exact ⟨OwnS.strs ⟨⟨rowSame hns.names.1.1 hns.namesk hro, hns.names.1.2⟩, hns.names.2⟩, hrl.rulesA _ hL',
    hns.heads.map.same (hsame .hm (by simp) (by simp) (by simp) _ hns.lo.2.1 hns.heads.map.lt hns.heads.mapk), hns.uses.map.same (hsame .um (by simp) (by simp) (by simp) _ hns.lo.2.2.1 hns.uses.map.lt hns.uses.mapk),
    fun x => ((hns.heads.row x).sameC (hns.heads.rowk x) (hsame (.head x) (by simp) (by simp) (by simp))).ints, fun x => ((hns.uses.row x).sameC (hns.uses.rowk x) (hsame (.use x) (by simp) (by simp) (by simp))).ints⟩

set_option maxHeartbeats 1000000 in
set_option maxRecDepth 100000 in
theorem newInv (v : Value) (p : GP) (w : World) (h : ProgIs w v p) (hv : validE p ≠ 0) :
    Calls Try.prog 12 #[v] w fun e w' => e = .returned (.tuple #[.pointer none, .int .i64 2]) ∧ Below w.heap.size w w' := by
  have h0 := h
  obtain ⟨vn, vs, vr, vm, rfl, hn, hnames, hshown, hrules, hmin⟩ := h
  obtain ⟨a1, c1, rfl, -⟩ := hnames.form
  obtain ⟨a2, c2, rfl, -⟩ := hrules.form
  clear hnames hshown hrules hmin hn
  have hal := bal (Below.refl w.heap.size w) (.cells #[.int .i64 p.n, .slice a1 p.names.length c1, vs, .slice a2 p.rules.length c2, vm] 27)
  have HP := Lib.hid (h0.below hal)
  have hve : (validE p == 0) = false := by simp [hv]
  have hvn : (validE p != 0) = true := by simp [hv]
  clear h0 hv
  go_enter Try.func12, Try.ntmps12
  go_wp2_with (go_at_call 21; refine (valid_any _ p _ HP.out).mono ?_; rintro e w1 ⟨rfl, hb1⟩; have hc1 := bcell hb1; have hz1 : w.heap.size < w1.heap.size := (by have := hb1.size; simp at this; omega))
  refine bodyPost_ret (v := .tuple #[.pointer none, .int .i64 2]) ?_ rfl ?_
  · simp [results, Try.results12, go_sem]
  · exact ⟨rfl, bon hal hb1⟩

/-- source.New. -/
theorem new_any (v : Value) (p : GP) (w : World) (h : ProgIs w v p) :
    Calls Try.prog 12 #[v] w fun e w' => Below w.heap.size w w' ∧ if validE p = 0 then ∃ s : SP, e = .returned (.tuple #[.pointer (some ⟨s.b, 0, none⟩), .int .i64 0]) ∧ s.H = w.heap.size ∧ s.T = w'.heap.size ∧ Src w'.heap.size s p (fun _ => 0) (fun _ => 0) 0 [] w'
      else e = .returned (.tuple #[.pointer none, .int .i64 2]) := by
  by_cases hv : validE p = 0
  · refine (newA v p w h hv).mono ?_
    rintro e w' ⟨b, rfl, hst⟩
    obtain ⟨h1, h2, s, rfl, h3, h4, h5⟩ := hst.src hv
    exact ⟨h1, by rw [if_pos hv]; exact ⟨s, rfl, h3, h4, h5⟩⟩
  · refine (newInv v p w h hv).mono ?_
    rintro e w' ⟨rfl, hb⟩
    exact ⟨hb, by rw [if_neg hv]⟩

end Go.Proofs.Ytkjpnpkmnpofgaa
