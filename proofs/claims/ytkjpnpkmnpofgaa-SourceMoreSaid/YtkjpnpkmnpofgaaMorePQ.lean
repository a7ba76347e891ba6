/- The plain law of SourceMore: more assigned founds less; the founded atoms of a definite program are its least closed set. -/
import Derived.Test.YtkjpnpkmnpofgaaLeastQ
import Derived.Test.YtkjpnpkmnpofgaaFindWQ
namespace Go.Proofs.Ytkjpnpkmnpofgaa
open Go.RowKit

/-- More is assigned. -/
def Anti (p : GP) (a b : List Int) : Prop := ∀ l : Int, 1 ≤ l.natAbs → (l.natAbs : Int) ≤ p.n + p.rules.length → offB a l = true → offB b l = true

theorem ordered_abs {l : List Int} {n : Int} (h : orderedB l n = true) {k : Nat} (hk : k < l.length) : 1 ≤ (ix l k).natAbs ∧ ((ix l k).natAbs : Int) ≤ n := by
  have := ordered_lit h (ix_mem hk)
  omega

theorem avSum_anti {p : GP} {a b : List Int} {G : Int → Int} {r : GR} (h : Anti p a b) (hb : ∀ k, k < r.body.length → 1 ≤ (ix r.body k).natAbs ∧ ((ix r.body k).natAbs : Int) ≤ p.n + p.rules.length) (hw : ∀ k, k < r.body.length → 0 ≤ ix r.w k) :
    ∀ k, k ≤ r.body.length → avSum r b G (fun _ => 0) 1 k ≤ avSum r a G (fun _ => 0) 1 k
  | 0, _ => Int.le_refl _
  | k + 1, hk => by
    have ih := avSum_anti (G := G) h hb hw k (by omega)
    have h1 := hb k (by omega)
    have h2 := hw k (by omega)
    have h3 := h (ix r.body k) h1.1 h1.2
    unfold avSum
    rw [holds_set, holds_set]
    cases ha : offB a (ix r.body k) with
    | true => rw [h3 ha]; simp only [Bool.not_true, Bool.false_and, Bool.false_eq_true, if_false]; omega
    | false =>
      simp only [Bool.not_false, Bool.true_and]
      cases hb' : offB b (ix r.body k) with
      | true => simp only [Bool.not_true, Bool.false_and, Bool.false_eq_true, if_false]; split <;> omega
      | false => simp only [Bool.not_false, Bool.true_and]; omega

theorem avS_anti {p : GP} {a b : List Int} {G : Int → Int} {i : Int} (hv : validE p = 0) (hi : 0 ≤ i ∧ i < p.rules.length) (h : Anti p a b) (hav : avS p b G i = true) : avS p a G i = true := by
  have hV := validP hv
  have hil : i.toNat < p.rules.length := by omega
  have hb : ∀ k, k < (ixR p.rules i.toNat).body.length → 1 ≤ (ix (ixR p.rules i.toNat).body k).natAbs ∧ ((ix (ixR p.rules i.toNat).body k).natAbs : Int) ≤ p.n + p.rules.length := fun k hk => by
    have := ordered_abs (hV.body i.toNat hil) hk
    omega
  unfold avS avB availB at *
  simp only [Bool.and_eq_true, Bool.not_eq_true'] at *
  refine ⟨?_, ?_⟩
  · cases ho : offB a (p.n + 1 + i.toNat) with
    | false => rfl
    | true =>
      have hn := hV.n.1
      have := h _ (by omega) (by omega) ho
      rw [hav.1] at this; cases this
  · have h2 := hav.2
    cases hs : (ixR p.rules i.toNat).sum with
    | true =>
      rw [hs] at h2
      simp only [if_true, decide_eq_true_eq] at h2 ⊢
      obtain ⟨h3, h4, -⟩ := weights_sum (hV.sum i.toNat hil hs)
      have := avSum_anti (G := G) h hb (fun k hk => by have := h4 k (by omega); omega) _ (Nat.le_refl _)
      omega
    | false =>
      rw [hs] at h2
      simp only [Bool.false_eq_true, if_false] at h2 ⊢
      refine allR_true fun k hk => ?_
      have h3 := allR_get h2 k hk
      rw [holds_set] at *
      simp only [Bool.and_eq_true, Bool.not_eq_true'] at *
      refine ⟨?_, h3.2⟩
      cases ho : offB a (ix (ixR p.rules i.toNat).body k) with
      | false => rfl
      | true => have := h _ (hb k hk).1 (hb k hk).2 ho; rw [h3.1] at this; cases this

theorem fnd_anti {p : GP} {a b : List Int} {F G : Int → Int} (hv : validE p = 0) (h : Anti p a b) (hF : IsFnd p a F) (hG : IsFnd p b G) (x : Int) (hx : 0 < G x) : 0 < F x :=
  hG.least F (fun x i h1 h2 h3 h4 h5 => hF.closed x i h1 h2 (by
    cases ho : offB a x with
    | false => rfl
    | true => have := h x (by omega) (by omega) ho; rw [h3] at this; cases this) h4 (avS_anti hv ⟨h4.1, h4.2.1⟩ h h5)) x hx

/-- The first n numbers of an assignment. -/
def firstN (a : List Int) (n : Nat) : List Int := (List.range n).map (ix a)
theorem firstN_len (a : List Int) (n : Nat) : (firstN a n).length = n := by simp [firstN]
theorem firstN_ix (a : List Int) (n i : Nat) (hi : i < n) : ix (firstN a n) i = ix a i := by
  unfold firstN
  conv => lhs; unfold ix
  simp [List.getD_eq_getElem?_getD, hi, ix]

theorem anti_set {p : GP} (a : List Int) {n : Nat} (hn : (n : Int) = p.n + p.rules.length) (v : Nat) (s : Int) (hv : v < n) (h0 : ix a v = 0) : Anti p a ((firstN a n).set v s) := fun l h1 h2 h3 => by
  unfold offB at *
  simp only [Bool.and_eq_true, decide_eq_true_eq] at *
  have hne : l.natAbs - 1 ≠ v := fun e => h3.1.2 (by rw [e]; exact h0)
  rw [List.length_set, firstN_len, ix_set _ _ _ _ (by rw [firstN_len]; exact hv), if_neg hne, firstN_ix _ _ _ (by omega)]
  exact ⟨⟨by omega, h3.1.2⟩, h3.2⟩

theorem anti_first {p : GP} (a : List Int) {n : Nat} (hn : (n : Int) = p.n + p.rules.length) : Anti p a (firstN a n) := fun l h1 h2 h3 => by
  unfold offB at *
  simp only [Bool.and_eq_true, decide_eq_true_eq] at *
  rw [firstN_len, firstN_ix _ _ _ (by omega)]
  exact ⟨⟨by omega, h3.1.2⟩, h3.2⟩

/-! ### The positive rules -/
def posR (r : GR) : Bool := decide (r.head.length = 1) && !r.choice && allR r.body.length (fun k => decide (0 < ix r.body k))
def posRules (l : List GR) : List GR := l.filter posR
def GP.pos (p : GP) : GP := { p with rules := posRules p.rules }

theorem ixR_mem {l : List GR} {i : Nat} (hi : i < l.length) : ixR l i ∈ l := by
  have : ixR l i = l[i] := by simp [ixR, List.getD_eq_getElem?_getD, List.getElem?_eq_getElem hi]
  rw [this]; exact List.getElem_mem hi

theorem ixR_of_mem {l : List GR} {r : GR} (h : r ∈ l) : ∃ i, i < l.length ∧ ixR l i = r := by
  obtain ⟨i, hi, e⟩ := List.mem_iff_getElem.1 h
  exact ⟨i, hi, by simp [ixR, List.getD_eq_getElem?_getD, List.getElem?_eq_getElem hi, e]⟩

theorem rulesFrom_all {l : List GR} {n : Int} (h : ∀ i, i < l.length → ruleE (ixR l i) n = 0) : ∀ m k, k + m ≤ l.length → rulesFrom l n k m = 0
  | 0, _, _ => rfl
  | m + 1, k, hk => by
    unfold rulesFrom
    rw [if_neg (by rw [h k (by omega)]; simp)]
    exact rulesFrom_all h m (k + 1) (by omega)

theorem valid_rules {p : GP} (h : validE p = 0) : ∀ r ∈ p.rules, ruleE r p.n = 0 := fun r hr => by
  obtain ⟨i, hi, rfl⟩ := ixR_of_mem hr
  unfold validE at h
  split at h
  · omega
  split at h
  · omega
  split at h
  · rename_i h3; exact absurd h h3
  rename_i h3
  exact rulesFrom_zero p.rules.length 0 (Decidable.not_not.1 h3) i (by omega) (by omega)

/-- Fewer rules. -/
theorem valid_with {p : GP} (h : validE p = 0) (l : List GR) (hl : l.length ≤ 40000) (hr : ∀ r ∈ l, ruleE r p.n = 0) : validE { p with rules := l } = 0 := by
  have h4 : rulesE l p.n = 0 := rulesFrom_all (fun i hi => hr _ (ixR_mem hi)) _ _ (by omega)
  have e1 : namedB { p with rules := l } = namedB p := rfl
  unfold validE at h ⊢
  rw [e1]
  simp only [h4]
  split at h
  · omega
  rename_i h1
  rw [if_neg h1, if_neg (by omega)]
  split at h
  · omega
  split at h
  · rename_i h3; exact absurd h h3
  split at h
  · omega
  rename_i h5
  split at h
  · omega
  rename_i h6
  simp [h5, h6]

theorem pos_len (l : List GR) : (posRules l).length ≤ l.length := List.length_filter_le _ _

theorem pos_valid {p : GP} (h : validE p = 0) : validE p.pos = 0 :=
  valid_with h _ (by have := (validP h).rules; have := pos_len p.rules; omega) (fun r hr => valid_rules h r (List.mem_filter.1 hr).1)

theorem pos_definite {p : GP} (h : validE p = 0) : definiteB p.n (posRules p.rules) = true := by
  have hV := validP h
  have := pos_len p.rules
  have hr := hV.rules
  unfold definiteB
  rw [decide_eq_true ⟨hV.n.1, hV.n.2, by omega⟩, Bool.true_and]
  refine allR_true fun i hi => ?_
  have hm' : ixR (posRules p.rules) i ∈ p.rules ∧ posR (ixR (posRules p.rules) i) = true := List.mem_filter.1 (ixR_mem hi)
  generalize ixR (posRules p.rules) i = r at *
  have h1 := valid_rules h _ hm'.1
  have h2 := hm'.2
  unfold posR at h2
  simp only [Bool.and_eq_true, decide_eq_true_eq, Bool.not_eq_true'] at h2
  unfold defAt
  rw [decide_eq_true h1, h2.1.2, decide_eq_true (show r.head.length ≤ 1 by omega), anyR_false (fun j hj => decide_eq_false (by have := allR_get h2.2 j hj; simp only [decide_eq_true_eq] at this; omega))]
  rfl

/-! ### Founded and least -/
theorem offB_nil (l : Int) : offB [] l = false := by simp [offB, ix]

theorem holds_nil {G : Int → Int} {l : Int} (hl : 0 < l) : holdsB [] G (fun _ => 0) 1 l = decide (0 < G l) := by
  rw [holds_set, offB_nil, decide_eq_false (by omega)]; simp

theorem lhs_all {M : List Int} {r : GR} (hs : r.sum = false) : ∀ k, lhsTo M r k ≤ k ∧ ((k : Int) ≤ lhsTo M r k ↔ ∀ j, j < k → ix r.body j ∈ M)
  | 0 => by simp [lhsTo]
  | k + 1 => by
    have ih := lhs_all (M := M) hs k
    have hw : wOf r k = 1 := by unfold wOf; rw [hs]; rfl
    unfold lhsTo
    rw [hw]
    by_cases h : ix r.body k ∈ M
    · rw [if_pos h]
      push_cast
      refine ⟨by omega, ⟨fun h1 => lt_succ_all (ih.2.1 (by omega)) h, fun h1 => by have := ih.2.2 (fun j hj => h1 j (by omega)); omega⟩⟩
    · rw [if_neg h]
      push_cast
      refine ⟨by omega, ⟨fun h1 => by omega, fun h1 => absurd (h1 k (by omega)) h⟩⟩

theorem avSum_lhs {G : Int → Int} {M : List Int} {r : GR} (hs : r.sum = true) (hGM : ∀ x, 0 < G x ↔ x ∈ M) (hb : ∀ k, k < r.body.length → 0 < ix r.body k) : ∀ k, k ≤ r.body.length → avSum r [] G (fun _ => 0) 1 k = lhsTo M r k
  | 0, _ => rfl
  | k + 1, hk => by
    have hw : wOf r k = ix r.w k := by unfold wOf; rw [hs]; rfl
    unfold avSum lhsTo
    rw [avSum_lhs hs hGM hb k (by omega), holds_nil (hb k (by omega)), hw]
    by_cases h : ix r.body k ∈ M
    · rw [if_pos h, decide_eq_true ((hGM _).2 h)]; rfl
    · rw [if_neg h, decide_eq_false (fun h' => h ((hGM _).1 h'))]; rfl

theorem avS_need {p : GP} {R : List GR} (hR : p.rules = R) {G : Int → Int} {M : List Int} (hGM : ∀ x, 0 < G x ↔ x ∈ M) {i : Nat} (hb : ∀ k, k < (ixR R i).body.length → 0 < ix (ixR R i).body k) : avS p [] G i = true ↔ need0 (ixR R i) ≤ lhs M (ixR R i) := by
  subst hR
  unfold avS avB availB lhs need0
  rw [Int.toNat_natCast, offB_nil]
  simp only [Bool.not_false, Bool.true_and]
  cases hs : (ixR p.rules i).sum with
  | true =>
    simp only [if_true, decide_eq_true_eq]
    rw [avSum_lhs hs hGM hb _ (Nat.le_refl _)]
  | false =>
    simp only [Bool.false_eq_true, if_false]
    rw [(lhs_all hs _).2]
    constructor
    · intro h j hj
      have := allR_get h j hj
      rw [holds_nil (hb j hj)] at this
      exact (hGM _).1 (of_decide_eq_true this)
    · intro h
      refine allR_true fun j hj => ?_
      rw [holds_nil (hb j hj)]
      exact decide_eq_true ((hGM _).2 (h j hj))

/-- The founded atoms in order. -/
def upF (F : Int → Int) : Nat → List Int
  | 0 => []
  | k + 1 => if 0 < F ((k : Int) + 1) then upF F k ++ [(k : Int) + 1] else upF F k

theorem upF_mem (F : Int → Int) (x : Int) : ∀ k, x ∈ upF F k ↔ 1 ≤ x ∧ x ≤ k ∧ 0 < F x
  | 0 => by simp [upF]; omega
  | k + 1 => by
    have ih := upF_mem F x k
    unfold upF
    split
    · rename_i h
      simp only [List.mem_append, List.mem_singleton, ih]
      constructor
      · rintro (h1 | rfl)
        · exact ⟨h1.1, by omega, h1.2.2⟩
        · exact ⟨by omega, by omega, h⟩
      · rintro ⟨h1, h2, h3⟩
        by_cases e : x = (k : Int) + 1
        · exact .inr e
        · exact .inl ⟨h1, by omega, h3⟩
    · rename_i h
      rw [ih]
      constructor
      · rintro ⟨h1, h2, h3⟩; exact ⟨h1, by omega, h3⟩
      · rintro ⟨h1, h2, h3⟩
        refine ⟨h1, ?_, h3⟩
        by_cases e : x = (k : Int) + 1
        · subst e; exact absurd h3 h
        · omega

theorem upF_sorted (F : Int → Int) : ∀ k, (upF F k).Pairwise (· < ·)
  | 0 => by simp [upF]
  | k + 1 => by
    have ih := upF_sorted F k
    unfold upF
    split
    · refine List.pairwise_append.2 ⟨ih, by simp, fun a ha b hb => ?_⟩
      simp only [List.mem_singleton] at hb
      have := (upF_mem F a k).1 ha
      omega
    · exact ih

theorem upF_count (F : Int → Int) : ∀ k, (findTo F [] k).length + (upF F k).length = k
  | 0 => rfl
  | k + 1 => by
    have ih := upF_count F k
    unfold findTo upF
    by_cases h : 0 < F ((k : Int) + 1)
    · rw [if_neg (fun h' => h'.1 h), if_pos h]; simp; omega
    · rw [if_pos ⟨h, offB_nil _⟩, if_neg h]; simp; omega

/-- The founded atoms of a positive program under nothing are its least closed set. -/
theorem fnd_least {p : GP} (hv : validE p = 0) {F : Int → Int} {M : List Int} (hF : IsFnd p.pos [] F) (hM : IsLeast (posRules p.rules) M) (x : Int) : 0 < F x ↔ x ∈ M := by
  have hd := definiteB_spec (pos_definite hv)
  have hb : ∀ i, i < (posRules p.rules).length → ∀ k, k < (ixR (posRules p.rules) i).body.length → 0 < ix (ixR (posRules p.rules) i).body k := fun i hi k hk => by have := (hd.body i hi).1 k hk; omega
  constructor
  · intro hx
    have hone : ∀ x : Int, 0 < (if x ∈ M then (1 : Int) else 0) ↔ x ∈ M := fun x => by
      by_cases h : x ∈ M
      · rw [if_pos h]; exact ⟨fun _ => h, fun _ => by omega⟩
      · rw [if_neg h]; exact ⟨fun h' => by omega, fun h' => absurd h' h⟩
    have := hF.least (fun x => if x ∈ M then 1 else 0) (fun x i h1 h2 h3 h4 h5 => by
      have hil : i.toNat < (posRules p.rules).length := by have := h4.2.1; have := h4.1; show i.toNat < p.pos.rules.length; omega
      have e : i = (i.toNat : Int) := by have := h4.1; omega
      rw [e] at h5
      have h6 := (avS_need (p := p.pos) rfl (M := M) hone (hb _ hil)).1 h5
      have := hM.closed _ hil h6 x h4.2.2
      exact (hone x).2 this) x hx
    by_cases h : x ∈ M
    · exact h
    · rw [if_neg h] at this; omega
  · intro hx
    have hmem : ∀ y, 0 < F y ↔ y ∈ upF F p.n.toNat := fun y => by
      rw [upF_mem]
      constructor
      · intro h
        have h1 := hF.dom y h
        have h2 : y ≤ p.n := h1.2
        exact ⟨h1.1, by omega, h⟩
      · exact fun h => h.2.2
    refine (hmem x).2 (hM.least x hx _ (fun i hi hn y hy => ?_))
    refine (hmem y).1 (hF.closed y i ?_ ?_ (offB_nil _) ⟨by omega, by show (i : Int) < (posRules p.rules).length; omega, by rw [Int.toNat_natCast]; exact hy⟩ ((avS_need (p := p.pos) rfl hmem (hb i hi)).2 hn))
    · exact ((hd.head i hi).2 y hy).1
    · exact ((hd.head i hi).2 y hy).2

theorem least_count {p : GP} (hv : validE p = 0) {F : Int → Int} {M : List Int} (hF : IsFnd p.pos [] F) (hM : IsLeast (posRules p.rules) M) (hs : M.Pairwise (· < ·)) : (findTo F [] p.n.toNat).length + M.length = p.n.toNat := by
  have e : M = upF F p.n.toNat := sorted_eq hs (upF_sorted F _) (fun x => by
    rw [← fnd_least hv hF hM x, upF_mem]
    constructor
    · intro h
      have h1 := hF.dom x h
      have h2 : x ≤ p.n := h1.2
      exact ⟨h1.1, by omega, h⟩
    · exact fun h => h.2.2)
  rw [e]
  exact upF_count F _

/-! ### Source, of what never turns -/
section
variable {s : SP} {p : GP} {F K : Int → Int} {clock : Int} {w : World}

theorem Core.lookF (h : Core s p F K clock w) (x : Int) : (Instr.lookup 48 (.map (some s.bf)) (.int .i64 x) false).run Try.prog w = .ok (.int .i64 (F x)) w := by
  obtain ⟨wo, mo, a0, h1, h2, h3⟩ := h
  have := (h1.frm.same (h3 _ h1.lo.2.1 h1.hi.2.1)).lookup kvInt Try.underlying48 Try.underlying3 (Try.zeroValue3 w) x
  rw [mapI_getD] at this
  exact this

theorem Core.fitF (h : Core s p F K clock w) (x : Int) : InI (F x) := by
  obtain ⟨wo, mo, a0, h1, h2, h3⟩ := h
  exact h1.fitF x

theorem founded_core (h : Core s p F K clock w) (x : Int) :
    Calls Try.prog 42 #[.pointer (some ⟨s.b, 0, none⟩), .int .i64 x] w fun e w' => e = .returned (.bool (decide (0 < F x))) ∧ w = w' := by
  have hl := h.lookF x
  obtain ⟨va, ho⟩ := h.obj
  have ko := ho.cell
  have hf := h.fitF x
  unfold InI at hf
  clear ho h
  go_enter Try.func42, Try.ntmps42
  go_wp2
  go_ret
  exact ⟨rfl, rfl⟩

set_option maxHeartbeats 1000000 in
theorem source_core (h : Core s p F K clock w) (x : Int) (hF0 : 0 ≤ F x) :
    Calls Try.prog 15 #[.pointer (some ⟨s.b, 0, none⟩), .int .i64 x] w fun e w' => e = .returned (.tuple #[.int .i64 (if 0 < F x then F x - 1 else 0), .bool (decide (0 < F x))]) ∧ w = w' := by
  have HS := Lib.hid h
  obtain ⟨va, ho⟩ := h.obj
  have ko := ho.cell
  have hl := h.lookF x
  have hf := h.fitF x
  unfold InI at hf
  have qm : ∀ (w : World) (r : Option Nat), (binOp .eql 48 (.map r) (.map none)).run Try.prog w = .ok (.bool r.isNone) w := fun w r => run_eql_map_nil w _ _ _ r Try.underlying48
  clear h ho
  by_cases hF : 0 < F x
  · have hF' : decide (0 < F x) = true := decide_eq_true hF
    rw [if_pos hF, hF']
    go_enter Try.func15, Try.ntmps15
    go_wp2_with (go_at_call 42; refine (founded_core HS.out x).mono ?_; rintro e w1 ⟨rfl, rfl⟩)
    go_ret2
    exact ⟨rfl, rfl⟩
  · have hF' : decide (0 < F x) = false := decide_eq_false hF
    rw [if_neg hF, hF']
    go_enter Try.func15, Try.ntmps15
    go_wp2_with (go_at_call 42; refine (founded_core HS.out x).mono ?_; rintro e w1 ⟨rfl, rfl⟩)
    go_ret2
    exact ⟨rfl, rfl⟩
end

end Go.Proofs.Ytkjpnpkmnpofgaa
