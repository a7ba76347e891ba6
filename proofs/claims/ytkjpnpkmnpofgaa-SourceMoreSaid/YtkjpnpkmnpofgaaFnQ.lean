/- slices.IndexFunc, slices.ContainsFunc with a closure, on ints and on rules; reduct.definite. -/
import Derived.Test.YtkjpnpkmnpofgaaLeastPQ
import Derived.Test.YtkjpnpkmnpofgaaMA
namespace Go.Proofs.Ytkjpnpkmnpofgaa
open Go.RowKit

/-- The first place at which g holds; -1. -/
def IxP (n : Nat) (g : Nat → Bool) (r : Int) : Prop := (r = -1 ∧ ∀ j, j < n → g j = false) ∨ ∃ k : Nat, k < n ∧ r = k ∧ g k = true ∧ ∀ j, j < k → g j = false

def IxR (n : Nat) (g : Nat → Bool) (w : World) (i : Value) (wx : World) : Prop := ∃ k : Nat, k ≤ n ∧ i = .int .i64 k ∧ (∀ j, j < k → g j = false) ∧ Below w.heap.size w wx

theorem IxP.any {n : Nat} {g : Nat → Bool} {r : Int} (h : IxP n g r) : decide (0 ≤ r) = anyR n g := by
  rcases h with ⟨rfl, h⟩ | ⟨k, h1, rfl, h2, h3⟩
  · rw [anyR_false h]; rfl
  · rw [anyR_true k h1 h2, decide_eq_true (by omega)]


set_option maxHeartbeats 1000000 in
theorem idx_def1 (v : Value) (l : List Int) (w : World) (h : Ints w v l) (g : Nat → Bool) 
    (hg : ∀ w', Below w.heap.size w w' → ∀ j, j < l.length → Calls Try.prog 97 #[.int .i64 (ix l j)] w' fun e w'' => e = .returned (.bool (g j)) ∧ Below w'.heap.size w' w'') :
    Calls Try.prog 70 #[v, .func (.func 97) #[] #[]] w fun e w' => ∃ r, e = .returned (.int .i64 r) ∧ IxP l.length g r ∧ Below w.heap.size w w' := by
  obtain ⟨a1, c1, rfl, -, hl1, -, hcell⟩ := h.form
  have HG := Lib.hid hg
  clear h hg
  go_enter Try.func70, Try.ntmps70
  go_wp2
  go_loopw [8] (fun i wx => IxR l.length g w i wx) (fun i _ => l.length - (intOf i).toNat)
  case atStart => exact ⟨0, by omega, rfl, fun j hj => absurd hj (Nat.not_lt_zero _), Below.refl _ _⟩
  case round =>
    obtain ⟨k, hk, rfl, hall, hb⟩ := hrel
    have HA := Lib.hid hall
    clear hall
    by_cases hlt : k < l.length
    · obtain ⟨b, off, rfl, hbl, hc⟩ := hcell (by omega)
      have hk1 := (bcell hb _ _ hbl).trans (hc k hlt)
      clear hc hcell
      cases g1 : g k with
      | true =>
        have HK : Hid (_ = true) := Lib.hid g1
        have HC := Lib.hid (HG.out _ hb k hlt)
        rw [g1] at HC
        clear g1
        go_wp2_with (go_at_call 97; refine (HC.out).mono ?_; rintro e w1 ⟨rfl, hb1⟩)
        go_ret
        exact ⟨_, rfl, .inr ⟨k, hlt, rfl, HK.out, HA.out⟩, bon hb hb1⟩
      | false =>
        have HN := Lib.hid (lt_succ_all HA.out g1)
        have HC := Lib.hid (HG.out _ hb k hlt)
        rw [g1] at HC
        clear g1
        go_wp2_with (go_at_call 97; refine (HC.out).mono ?_; rintro e w1 ⟨rfl, hb1⟩)
        first
          | (go_roundw
             case rel => (exact ⟨k + 1, by omega, by go_num, HN.out, bon hb hb1⟩)
             case measure => (simp [intOf]; omega))
          | (refine ⟨?_, ?_⟩
             · (exact ⟨k + 1, by omega, by go_num, HN.out, bon hb hb1⟩)
             · (simp [intOf]; omega))
    · have HN : Hid (∀ j, j < l.length → g j = false) := Lib.hid (fun j hj => HA.out j (by omega))
      go_wp2
      go_ret
      exact ⟨_, rfl, .inl ⟨rfl, HN.out⟩, hb⟩

set_option maxHeartbeats 1000000 in
theorem ctn_def1 (v : Value) (l : List Int) (w : World) (h : Ints w v l) (g : Nat → Bool) 
    (hg : ∀ w', Below w.heap.size w w' → ∀ j, j < l.length → Calls Try.prog 97 #[.int .i64 (ix l j)] w' fun e w'' => e = .returned (.bool (g j)) ∧ Below w'.heap.size w' w'') :
    Calls Try.prog 62 #[v, .func (.func 97) #[] #[]] w fun e w' => e = .returned (.bool (anyR l.length g)) ∧ Below w.heap.size w w' := by
  have HI := Lib.hid (idx_def1 v l w h g  hg)
  obtain ⟨a1, c1, rfl, -⟩ := h.form
  clear h hg
  go_enter Try.func62, Try.ntmps62
  go_wp2_with (go_at_call 70; refine (HI.out).mono ?_; rintro e w1 ⟨r, rfl, hr, hb1⟩; have HR := Lib.hid hr; clear hr)
  go_ret
  exact ⟨ret_bool HR.out.any, hb1⟩

theorem neg_any (w : World) (x : Int) : Calls Try.prog 97 #[.int .i64 x] w fun e w' => e = .returned (.bool (decide (x < 0))) ∧ w = w' := by
  by_cases h : x < 0
  · go_enter Try.func97, Try.ntmps97
    go_wp2
    go_ret
    exact ⟨ret_bool (decide_eq_true h).symm, rfl⟩
  · go_enter Try.func97, Try.ntmps97
    go_wp2
    go_ret
    exact ⟨ret_bool (decide_eq_false (by omega)).symm, rfl⟩

set_option maxHeartbeats 1000000 in
theorem idxR_def (v : Value) (l : List GR) (w : World) (h : RulesIs w v l) (g : Nat → Bool) (cap : Value)
    (hg : ∀ w', Below w.heap.size w w' → ∀ j, j < l.length → ∀ u, RuleIs w' u (ixR l j) → Calls Try.prog 96 #[u, cap] w' fun e w'' => e = .returned (.bool (g j)) ∧ Below w'.heap.size w' w'') :
    Calls Try.prog 111 #[v, .func (.func 96) #[] #[cap]] w fun e w' => ∃ r, e = .returned (.int .i64 r) ∧ IxP l.length g r ∧ Below w.heap.size w w' := by
  obtain ⟨a1, c1, rfl, -, hl1, -, hcell⟩ := h.form
  have HG := Lib.hid hg
  clear h hg
  go_enter Try.func111, Try.ntmps111
  go_wp2
  go_loopw [8] (fun i wx => IxR l.length g w i wx) (fun i _ => l.length - (intOf i).toNat)
  case atStart => exact ⟨0, by omega, rfl, fun j hj => absurd hj (Nat.not_lt_zero _), Below.refl _ _⟩
  case round =>
    obtain ⟨k, hk, rfl, hall, hb⟩ := hrel
    have HA := Lib.hid hall
    clear hall
    by_cases hlt : k < l.length
    · obtain ⟨b, off, rfl, hbl, hc⟩ := hcell (by omega)
      obtain ⟨vh, vb, vw, ⟨k0, k1, k2, k3, k4, k5⟩, hsl⟩ := hc k hlt
      have hbr := hsl.below hb
      have hk0 := (bcell hb _ _ hbl).trans k0
      have hk1 := (bcell hb _ _ hbl).trans k1
      have hk2 := (bcell hb _ _ hbl).trans k2
      have hk3 := (bcell hb _ _ hbl).trans k3
      have hk4 := (bcell hb _ _ hbl).trans k4
      have hk5 := (bcell hb _ _ hbl).trans k5
      have HRU : Hid (RuleIs wr (.agg #[.bool (ixR l k).choice, vh, .bool (ixR l k).sum, .int .i64 (ixR l k).bound, vb, vw]) (ixR l k)) := Lib.hid ⟨vh, vb, vw, rfl, hbr⟩
      clear hc hcell k0 k1 k2 k3 k4 k5 hsl hbr
      cases g1 : g k with
      | true =>
        have HK : Hid (_ = true) := Lib.hid g1
        have HC := Lib.hid (HG.out _ hb k hlt _ HRU.out)
        rw [g1] at HC
        clear g1
        go_wp2_with (go_at_call 96; refine (HC.out).mono ?_; rintro e w1 ⟨rfl, hb1⟩)
        go_ret
        exact ⟨_, rfl, .inr ⟨k, hlt, rfl, HK.out, HA.out⟩, bon hb hb1⟩
      | false =>
        have HN := Lib.hid (lt_succ_all HA.out g1)
        have HC := Lib.hid (HG.out _ hb k hlt _ HRU.out)
        rw [g1] at HC
        clear g1
        go_wp2_with (go_at_call 96; refine (HC.out).mono ?_; rintro e w1 ⟨rfl, hb1⟩)
        first
          | (go_roundw
             case rel => (exact ⟨k + 1, by omega, by go_num, HN.out, bon hb hb1⟩)
             case measure => (simp [intOf]; omega))
          | (refine ⟨?_, ?_⟩
             · (exact ⟨k + 1, by omega, by go_num, HN.out, bon hb hb1⟩)
             · (simp [intOf]; omega))
    · have HN : Hid (∀ j, j < l.length → g j = false) := Lib.hid (fun j hj => HA.out j (by omega))
      go_wp2
      go_ret
      exact ⟨_, rfl, .inl ⟨rfl, HN.out⟩, hb⟩

set_option maxHeartbeats 1000000 in
theorem ctnR_def (v : Value) (l : List GR) (w : World) (h : RulesIs w v l) (g : Nat → Bool) (cap : Value)
    (hg : ∀ w', Below w.heap.size w w' → ∀ j, j < l.length → ∀ u, RuleIs w' u (ixR l j) → Calls Try.prog 96 #[u, cap] w' fun e w'' => e = .returned (.bool (g j)) ∧ Below w'.heap.size w' w'') :
    Calls Try.prog 80 #[v, .func (.func 96) #[] #[cap]] w fun e w' => e = .returned (.bool (anyR l.length g)) ∧ Below w.heap.size w w' := by
  have HI := Lib.hid (idxR_def v l w h g cap hg)
  obtain ⟨a1, c1, rfl, -⟩ := h.form
  clear h hg
  go_enter Try.func80, Try.ntmps80
  go_wp2_with (go_at_call 111; refine (HI.out).mono ?_; rintro e w1 ⟨r, rfl, hr, hb1⟩; have HR := Lib.hid hr; clear hr)
  go_ret
  exact ⟨ret_bool HR.out.any, hb1⟩

def defAt (n : Int) (r : GR) : Bool := decide (ruleE r n = 0) && !r.choice && decide (r.head.length ≤ 1) && !anyR r.body.length (fun j => decide (ix r.body j < 0))

set_option maxHeartbeats 1000000 in
theorem defAt_any (v : Value) (r : GR) (n : Int) (cb : Nat) (w : World) (h : RuleIs w v r) (hn : Blk w cb [.int .i64 n] 3) :
    Calls Try.prog 96 #[v, .pointer (some ⟨cb, 0, none⟩)] w fun e w' => e = .returned (.bool (!defAt n r)) ∧ Below w.heap.size w w' := by
  obtain ⟨vh, vb, vw, rfl, hsl⟩ := h
  have hal := bal (Below.refl w.heap.size w) (.cells #[.bool r.choice, vh, .bool r.sum, .int .i64 r.bound, vb, vw] 44)
  obtain ⟨a1, c1, rfl, -, hl1, -, -⟩ := hsl.head.form
  obtain ⟨a2, c2, rfl, -, hl2, -, -⟩ := hsl.body.form
  obtain ⟨a3, c3, rfl, -, hl3, -, -⟩ := hsl.wts.form
  have HR : Hid (RuleIs (w.alloc (.cells #[.bool r.choice, .slice a1 r.head.length c1, .bool r.sum, .int .i64 r.bound, .slice a2 r.body.length c2, .slice a3 r.w.length c3] 44)) (.agg #[.bool r.choice, .slice a1 r.head.length c1, .bool r.sum, .int .i64 r.bound, .slice a2 r.body.length c2, .slice a3 r.w.length c3]) r) := Lib.hid ⟨_, _, _, rfl, hsl.below hal⟩
  have HB := Lib.hid (hsl.body.below hal)
  have HBK := Lib.hid (Blk.new w [.bool r.choice, .slice a1 r.head.length c1, .bool r.sum, .int .i64 r.bound, .slice a2 r.body.length c2, .slice a3 r.w.length c3] 44)
  have hcn := hn.cell 0
  have hcz := hn.lt
  have HU : Hid (defAt n r = (decide (ruleE r n = 0) && !r.choice && decide (r.head.length ≤ 1) && !anyR r.body.length (fun j => decide (ix r.body j < 0)))) := Lib.hid rfl
  clear hsl hn
  by_cases h1 : ruleE r n = 0
  · have h1' : (ruleE r n != 0) = false := by simp [h1]
    have H1 := Lib.hid h1
    cases h2 : r.choice with
    | true =>
      have HF : Hid (defAt n r = false) := Lib.hid (by rw [HU.out, h2]; simp)
      rw [h2] at HR HBK HB hal
      clear h1
      go_enter Try.func96, Try.ntmps96
      go_wp2_with (first | (go_at_call 62; (with_reducible refine (ctn_def1 _ _ _ (HB.out.below hb1) (fun j => decide (ix r.body j < 0)) (fun w' _ j _ => (neg_any w' _).mono fun e w'' ⟨e1, e2⟩ => ⟨e1, e2 ▸ Below.refl _ _⟩)).mono ?_); rintro e w2 ⟨rfl, hb2⟩) | (go_at_call 47; (with_reducible refine (rule_any _ r n _ HR.out).mono ?_); rintro e w1 ⟨rfl, hb1⟩; have hc1 := bcell hb1; have kk := fun o => (hc1 w.heap.size o (by simp)).trans (HBK.out.cell o)))
      go_ret
      exact ⟨ret_bool (by rw [HF.out]; rfl), bon hal hb1⟩
    | false =>
      rw [h2] at HR HBK HB hal
      by_cases h3 : r.head.length ≤ 1
      · have HF : Hid (defAt n r = !anyR r.body.length (fun j => decide (ix r.body j < 0))) := Lib.hid (by rw [HU.out, h2, decide_eq_true h1, decide_eq_true h3]; simp)
        clear h1
        go_enter Try.func96, Try.ntmps96
        go_wp2_with (first | (go_at_call 62; (with_reducible refine (ctn_def1 _ _ _ (HB.out.below hb1) (fun j => decide (ix r.body j < 0)) (fun w' _ j _ => (neg_any w' _).mono fun e w'' ⟨e1, e2⟩ => ⟨e1, e2 ▸ Below.refl _ _⟩)).mono ?_); rintro e w2 ⟨rfl, hb2⟩) | (go_at_call 47; (with_reducible refine (rule_any _ r n _ HR.out).mono ?_); rintro e w1 ⟨rfl, hb1⟩; have hc1 := bcell hb1; have kk := fun o => (hc1 w.heap.size o (by simp)).trans (HBK.out.cell o)))
        go_ret
        exact ⟨ret_bool (by rw [HF.out, Bool.not_not, decide_eq_false (by omega), Bool.false_or]), bon (bon hal hb1) hb2⟩
      · have HF : Hid (defAt n r = false) := Lib.hid (by rw [HU.out, decide_eq_false h3]; simp)
        clear h1
        go_enter Try.func96, Try.ntmps96
        go_wp2_with (first | (go_at_call 62; (with_reducible refine (ctn_def1 _ _ _ (HB.out.below hb1) (fun j => decide (ix r.body j < 0)) (fun w' _ j _ => (neg_any w' _).mono fun e w'' ⟨e1, e2⟩ => ⟨e1, e2 ▸ Below.refl _ _⟩)).mono ?_); rintro e w2 ⟨rfl, hb2⟩) | (go_at_call 47; (with_reducible refine (rule_any _ r n _ HR.out).mono ?_); rintro e w1 ⟨rfl, hb1⟩; have hc1 := bcell hb1; have kk := fun o => (hc1 w.heap.size o (by simp)).trans (HBK.out.cell o)))
        go_ret
        exact ⟨ret_bool (by rw [HF.out]; rfl), bon hal hb1⟩
  · have h1' : (ruleE r n != 0) = true := by simp [h1]
    have HF : Hid (defAt n r = false) := Lib.hid (by rw [HU.out, decide_eq_false h1]; simp)
    clear h1
    go_enter Try.func96, Try.ntmps96
    go_wp2_with (first | (go_at_call 62; (with_reducible refine (ctn_def1 _ _ _ (HB.out.below hb1) (fun j => decide (ix r.body j < 0)) (fun w' _ j _ => (neg_any w' _).mono fun e w'' ⟨e1, e2⟩ => ⟨e1, e2 ▸ Below.refl _ _⟩)).mono ?_); rintro e w2 ⟨rfl, hb2⟩) | (go_at_call 47; (with_reducible refine (rule_any _ r n _ HR.out).mono ?_); rintro e w1 ⟨rfl, hb1⟩; have hc1 := bcell hb1; have kk := fun o => (hc1 w.heap.size o (by simp)).trans (HBK.out.cell o)))
    go_ret
    exact ⟨ret_bool (by rw [HF.out]; rfl), bon hal hb1⟩

def definiteB (n : Int) (R : List GR) : Bool := decide (0 ≤ n ∧ n ≤ 4000 ∧ R.length ≤ 40000) && allR R.length (fun i => defAt n (ixR R i))

theorem definite_neg (n : Int) (R : List GR) (h : 0 ≤ n ∧ n ≤ 4000 ∧ R.length ≤ 40000) : (!anyR R.length fun i => !defAt n (ixR R i)) = definiteB n R := by
  unfold definiteB anyR allR
  rw [decide_eq_true h, Bool.true_and]
  induction List.range R.length with
  | nil => rfl
  | cons x l ih => simp only [List.any_cons, List.all_cons, Bool.not_or, ih, Bool.not_not]

set_option maxHeartbeats 1000000 in
theorem definite_any (v : Value) (R : List GR) (n : Int) (w : World) (h : RulesIs w v R) :
    Calls Try.prog 76 #[.int .i64 n, v] w fun e w' => e = .returned (.bool (definiteB n R)) ∧ Below w.heap.size w w' := by
  have hal := bal (Below.refl w.heap.size w) (.cells #[.int .i64 n] 3)
  obtain ⟨a1, c1, rfl, -, hl1, -⟩ := h.form
  have HR := Lib.hid (h.below hal)
  have HBK := Lib.hid (Blk.new w [.int .i64 n] 3)
  clear h
  by_cases h1 : n < 0
  · have HF : Hid (definiteB n R = false) := Lib.hid (by unfold definiteB; rw [decide_eq_false (by omega)]; rfl)
    go_enter Try.func76, Try.ntmps76
    go_wp2
    go_ret
    exact ⟨ret_bool HF.out.symm, hal⟩
  · by_cases h2 : 4000 < n
    · have HF : Hid (definiteB n R = false) := Lib.hid (by unfold definiteB; rw [decide_eq_false (by omega)]; rfl)
      go_enter Try.func76, Try.ntmps76
      go_wp2
      go_ret
      exact ⟨ret_bool HF.out.symm, hal⟩
    · by_cases h3 : (40000 : Int) < R.length
      · have HF : Hid (definiteB n R = false) := Lib.hid (by unfold definiteB; rw [decide_eq_false (by omega)]; rfl)
        go_enter Try.func76, Try.ntmps76
        go_wp2
        go_ret
        exact ⟨ret_bool HF.out.symm, hal⟩
      · have HF := Lib.hid (definite_neg n R (by omega))
        go_enter Try.func76, Try.ntmps76
        go_wp2_with (go_at_call 80; (with_reducible refine (ctnR_def _ R _ HR.out (fun i => !defAt n (ixR R i)) _ (fun w' hb j _ u hu => defAt_any u _ n _ w' hu (HBK.out.below hb))).mono ?_); rintro e w1 ⟨rfl, hb1⟩)
        go_ret
        exact ⟨ret_bool HF.out, bon hal hb1⟩

theorem lits_le {l : List Int} {n : Int} (h : orderedB l n = true) (hn : 0 ≤ n) : (l.length : Int) ≤ 2 * n + 2 := by
  have hp : (l.map litKey).Pairwise (· < ·) := by
    rw [List.pairwise_iff_getElem]
    intro i j hi hj hij
    simp only [List.length_map] at hi hj
    have := ordered_lt h j hj i hij
    simpa [ix, List.getD_eq_getElem?_getD, List.getElem?_eq_getElem hi, List.getElem?_eq_getElem hj] using this
  have := lt_length (l.map litKey) 0 (2 * n + 2) hp (fun x hx => by
    obtain ⟨y, hy, rfl⟩ := List.mem_map.1 hx
    have := ordered_lit h hy
    unfold litKey
    split <;> omega) (by omega)
  simpa using this

/-- What definite says. -/
theorem definiteB_spec {n : Int} {R : List GR} (h : definiteB n R = true) : DefR n R := by
  unfold definiteB at h
  simp only [Bool.and_eq_true, decide_eq_true_eq] at h
  obtain ⟨⟨h1, h2, h3⟩, h4⟩ := h
  have h5 := fun i (hi : i < R.length) => allR_get h4 i hi
  have h6 : ∀ i, i < R.length → ruleE (ixR R i) n = 0 ∧ (ixR R i).head.length ≤ 1 ∧ ∀ j, j < (ixR R i).body.length → 0 ≤ ix (ixR R i).body j := fun i hi => by
    have := h5 i hi
    simp only [defAt, Bool.and_eq_true, decide_eq_true_eq, Bool.not_eq_true'] at this
    obtain ⟨⟨⟨a1, a2⟩, a3⟩, a4⟩ := this
    refine ⟨a1, a3, fun j hj => ?_⟩
    by_cases h0 : ix (ixR R i).body j < 0
    · rw [anyR_true j hj (by simp [h0])] at a4; cases a4
    · omega
  have h7 : ∀ i, i < R.length → increasingB (ixR R i).head n = true ∧ orderedB (ixR R i).body n = true ∧ ((ixR R i).sum = true → weightsB (ixR R i).w (ixR R i).body.length = true ∧ 0 ≤ (ixR R i).bound ∧ (ixR R i).bound ≤ 1048576) := fun i hi => by
    have h8 := (h6 i hi).1
    unfold ruleE at h8
    grind
  refine ⟨⟨h1, h2⟩, h3, fun i hi => ⟨(h6 i hi).2.1, fun x hx => ?_⟩, fun i hi => ⟨fun k hk => ?_, ?_⟩, fun i hi hs => ?_, fun i hi hs => ((h7 i hi).2.2 hs).2⟩
  · have h8 := (h7 i hi).1
    have h9 := ordered_lit (increasing_ordered h8) hx
    unfold increasingB at h8
    simp only [Bool.and_eq_true] at h8
    obtain ⟨k, hk, rfl⟩ : ∃ k, k < (ixR R i).head.length ∧ x = ix (ixR R i).head k := by
      obtain ⟨k, hk, e⟩ := List.mem_iff_getElem.1 hx
      exact ⟨k, hk, by simp [ix, List.getD_eq_getElem?_getD, List.getElem?_eq_getElem hk, e]⟩
    have := allR_get h8.2 k hk
    simp only [decide_eq_true_eq] at this
    omega
  · have h8 := (h6 i hi).2.2 k hk
    have h9 := ordered_lit (h7 i hi).2.1 (show ix (ixR R i).body k ∈ (ixR R i).body from by simp [ix, List.getD_eq_getElem?_getD, List.getElem?_eq_getElem hk])
    omega
  · have := lits_le (h7 i hi).2.1 h1
    omega
  · have h8 := ((h7 i hi).2.2 hs).1
    unfold weightsB at h8
    simp only [Bool.and_eq_true, decide_eq_true_eq] at h8
    refine ⟨by omega, fun k hk => ?_⟩
    have := allR_get h8.1 k hk
    simpa using this

end Go.Proofs.Ytkjpnpkmnpofgaa
