/- The plain law of the search: what lose and gain keep, and that what is founded in the end is the least closed set. -/
import Derived.Test.YtkjpnpkmnpofgaaSrc3
namespace Go.Proofs.Ytkjpnpkmnpofgaa
open Go.RowKit

def InHead (p : GP) (i x : Int) : Prop := 0 ≤ i ∧ i < p.rules.length ∧ x ∈ (ixR p.rules i.toNat).head
def InBody (p : GP) (i x : Int) : Prop := 0 ≤ i ∧ i < p.rules.length ∧ x ∈ (ixR p.rules i.toNat).body
def avB (p : GP) (a : List Int) (F K : Int → Int) (i before : Int) : Bool := availB p a F K i.toNat before

/-- What a state of the sources is at all times. -/
def SInv (p : GP) (F K : Int → Int) (clock : Int) : Prop :=
  ∀ x, F x = 0 ∨ (0 < F x ∧ 1 ≤ x ∧ x ≤ p.n ∧ InHead p (F x - 1) x ∧ 1 ≤ K x ∧ K x ≤ clock)

def cntF (F : Int → Int) : Nat → Nat
  | 0 => 0
  | n + 1 => cntF F n + if 0 < F ((n : Int) + 1) then 1 else 0

theorem cntF_le (F : Int → Int) : ∀ n, cntF F n ≤ n
  | 0 => Nat.le_refl _
  | n + 1 => by have := cntF_le F n; unfold cntF; split <;> omega

theorem setI_eq (F : Int → Int) (x v : Int) : setI F x v x = v := by simp [setI]
theorem setI_ne (F : Int → Int) {x y : Int} (v : Int) (h : y ≠ x) : setI F x v y = F y := by simp [setI, h]

theorem cntF_set_out (F : Int → Int) (x v : Int) : ∀ n : Nat, (n : Int) < x → cntF (setI F x v) n = cntF F n
  | 0, _ => rfl
  | n + 1, h => by
    unfold cntF
    rw [cntF_set_out F x v n (by omega), setI_ne F v (by omega)]

theorem cntF_up (F : Int → Int) (x v : Int) (h0 : ¬ 0 < F x) (hv : 0 < v) : ∀ n : Nat, 1 ≤ x → x ≤ n → cntF (setI F x v) n = cntF F n + 1
  | 0, h1, h2 => by omega
  | n + 1, h1, h2 => by
    unfold cntF
    by_cases e : x = (n : Int) + 1
    · subst e
      rw [cntF_set_out F _ v n (by omega), setI_eq, if_pos hv, if_neg h0]
    · rw [cntF_up F x v h0 hv n h1 (by omega), setI_ne F v (fun e' => e e'.symm)]
      omega

theorem cntF_down (F : Int → Int) (x : Int) (h0 : 0 < F x) : ∀ n : Nat, 1 ≤ x → x ≤ n → cntF (setI F x 0) n + 1 = cntF F n
  | 0, h1, h2 => by omega
  | n + 1, h1, h2 => by
    unfold cntF
    by_cases e : x = (n : Int) + 1
    · subst e
      rw [cntF_set_out F _ 0 n (by omega), setI_eq, if_neg (by omega), if_pos h0]
    · have := cntF_down F x h0 n h1 (by omega)
      rw [setI_ne F 0 (fun e' => e e'.symm)]
      omega

section avail
variable {p : GP} {a : List Int} {F K F' K' : Int → Int}

theorem avSum_congr {r : GR} {b b' : Int} (h : ∀ l ∈ r.body, holdsB a F K b l = holdsB a F' K' b' l) : ∀ k, k ≤ r.body.length → avSum r a F K b k = avSum r a F' K' b' k
  | 0, _ => rfl
  | k + 1, hk => by
    unfold avSum
    rw [avSum_congr h k (by omega), h (ix r.body k) (by
      have e : ix r.body k = r.body[k] := by simp [ix, List.getD_eq_getElem?_getD, List.getElem?_eq_getElem (show k < r.body.length by omega)]
      rw [e]; exact List.getElem_mem (by omega))]

theorem avB_congr {i b b' : Int} (h : ∀ l ∈ (ixR p.rules i.toNat).body, holdsB a F K b l = holdsB a F' K' b' l) : avB p a F K i b = avB p a F' K' i b' := by
  unfold avB availB
  rw [avSum_congr h _ (Nat.le_refl _)]
  congr 2
  have e : ∀ k, k < (ixR p.rules i.toNat).body.length → holdsB a F K b (ix (ixR p.rules i.toNat).body k) = holdsB a F' K' b' (ix (ixR p.rules i.toNat).body k) := fun k hk => h _ (by
    have e : ix (ixR p.rules i.toNat).body k = (ixR p.rules i.toNat).body[k] := by simp [ix, List.getD_eq_getElem?_getD, List.getElem?_eq_getElem hk]
    rw [e]; exact List.getElem_mem hk)
  unfold allR
  rw [Bool.eq_iff_iff]
  simp only [List.all_eq_true, List.mem_range]
  constructor
  · intro h1 k hk; rw [← e k hk]; exact h1 k hk
  · intro h1 k hk; rw [e k hk]; exact h1 k hk

/-- An atom that is not in the body does not matter. -/
theorem avB_away {i b x u v : Int} (h : x ∉ (ixR p.rules i.toNat).body) : avB p a (setI F x u) (setI K x v) i b = avB p a F K i b :=
  avB_congr fun l hl => by
    have : l ≠ x := fun e => h (e ▸ hl)
    unfold holdsB
    rw [setI_ne F u this, setI_ne K v this]

/-- A new source at the time c does not matter to what was to be founded before. -/
theorem avB_new {i b x u c : Int} (h0 : ¬ 0 < F x) (hb : b ≤ c) : avB p a (setI F x u) (setI K x c) i b = avB p a F K i b :=
  avB_congr fun l hl => by
    unfold holdsB
    by_cases e : l = x
    · subst e
      rw [setI_eq, setI_eq]
      have h1 : decide (c < b) = false := decide_eq_false (by omega)
      have h2 : decide (0 < F l) = false := decide_eq_false h0
      rw [h1, h2]; simp
    · rw [setI_ne F u e, setI_ne K c e]

theorem avB_time {i b b' clock : Int} (h : SInv p F K clock) (hb : clock < b) (hb' : clock < b') : avB p a F K i b = avB p a F K i b' :=
  avB_congr fun l hl => by
    unfold holdsB
    rcases h l with h1 | h1
    · rw [h1]; simp
    · have h2 : decide (K l < b) = true := decide_eq_true (by omega)
      have h3 : decide (K l < b') = true := decide_eq_true (by omega)
      rw [h2, h3]

end avail

/-- lose, under way: 'X' the first atom that has not been asked, R what still is to be asked. -/
structure LI (p : GP) (a : List Int) (F K : Int → Int) (clock : Int) (l : List Int) (X : Int) (R : Int → Int → Prop) : Prop where
  inv : SInv p F K clock
  off : ∀ z, 0 < F z → z < X → offB a z = false
  ok : ∀ z, 0 < F z → avB p a F K (F z - 1) (K z) = true ∨ (∃ y ∈ l, InBody p (F z - 1) y) ∨ R z (F z - 1)
  q : ∀ y ∈ l, 1 ≤ y ∧ y ≤ p.n
  cnt : (cntF F p.n.toNat + l.length : Int) ≤ p.n

section lose
variable {p : GP} {a l : List Int} {F K : Int → Int} {clock X X' : Int} {R R' : Int → Int → Prop}

theorem LI.start (h : SInv p F K clock) (hn : 0 ≤ p.n) : LI p a F K clock [] 1 (fun z _ => 1 ≤ z) := by
  refine ⟨h, fun z hz hx => ?_, fun z hz => .inr (.inr ?_), fun y hy => by simp at hy, ?_⟩
  · rcases h z with h1 | h1 <;> omega
  · rcases h z with h1 | h1 <;> omega
  · have := cntF_le F p.n.toNat; simp; omega

theorem LI.drop (h : LI p a F K clock l X R) (x : Int) (hx : 0 < F x) (hX : ∀ z, z < X' → z ≠ x → z < X) (hR : ∀ z i, z ≠ x → R z i → R' z i) : LI p a (setI F x 0) (setI K x 0) clock (l ++ [x]) X' R' := by
  have hi := h.inv x
  refine ⟨fun z => ?_, fun z hz hzx => ?_, fun z hz => ?_, fun y hy => ?_, ?_⟩
  · by_cases e : z = x
    · subst e; left; rw [setI_eq]
    · rw [setI_ne F 0 e, setI_ne K 0 e]; exact h.inv z
  · have e : z ≠ x := fun e => by subst e; rw [setI_eq] at hz; omega
    rw [setI_ne F 0 e] at hz
    exact h.off z hz (hX z hzx e)
  · have e : z ≠ x := fun e => by subst e; rw [setI_eq] at hz; omega
    rw [setI_ne F 0 e] at hz ⊢
    rw [setI_ne K 0 e]
    by_cases hb : x ∈ (ixR p.rules (F z - 1).toNat).body
    · right; left
      refine ⟨x, by simp, ?_⟩
      rcases h.inv z with h1 | h1
      · omega
      · have := h1.2.2.2.1; exact ⟨this.1, this.2.1, hb⟩
    · rw [avB_away hb]
      rcases h.ok z hz with h1 | ⟨y, h1, h2⟩ | h1
      · exact .inl h1
      · exact .inr (.inl ⟨y, by simp [h1], h2⟩)
      · exact .inr (.inr (hR z _ e h1))
  · simp only [List.mem_append, List.mem_singleton] at hy
    rcases hy with hy | rfl
    · exact h.q y hy
    · omega
  · have h2 := h.cnt
    have h3 := cntF_down F x hx p.n.toNat (by omega) (by omega)
    simp only [List.length_append, List.length_singleton]
    push_cast
    omega

theorem LI.keep (h : LI p a F K clock l X R) (hX : ∀ z, 0 < F z → z < X' → z < X ∨ offB a z = false) (hR : ∀ z, 0 < F z → R z (F z - 1) → avB p a F K (F z - 1) (K z) = true ∨ R' z (F z - 1)) : LI p a F K clock l X' R' := by
  refine ⟨h.inv, fun z hz hzx => ?_, fun z hz => ?_, h.q, h.cnt⟩
  · rcases hX z hz hzx with h1 | h1
    · exact h.off z hz h1
    · exact h1
  · rcases h.ok z hz with h1 | h1 | h1
    · exact .inl h1
    · exact .inr (.inl h1)
    · rcases hR z hz h1 with h2 | h2
      · exact .inl h2
      · exact .inr (.inr h2)

theorem LI.pop {y : Int} (h : LI p a F K clock (y :: l) X R) (hR : ∀ z i, R z i → R' z i) (hy : ∀ z i, InHead p i z → InBody p i y → R' z i) : LI p a F K clock l X R' := by
  refine ⟨h.inv, h.off, fun z hz => ?_, fun y' hy' => h.q y' (.tail _ hy'), ?_⟩
  · rcases h.ok z hz with h1 | ⟨y', h1, h2⟩ | h1
    · exact .inl h1
    · rcases List.mem_cons.1 h1 with rfl | h3
      · refine .inr (.inr (hy z _ ?_ h2))
        rcases h.inv z with h4 | h4
        · omega
        · exact h4.2.2.2.1
      · exact .inr (.inl ⟨y', h3, h2⟩)
    · exact .inr (.inr (hR _ _ h1))
  · have := h.cnt
    simp only [List.length_cons] at this
    push_cast at this
    omega

end lose

/-- What lose leaves. -/
structure Lost (p : GP) (a : List Int) (F K : Int → Int) (clock : Int) : Prop where
  inv : SInv p F K clock
  off : ∀ z, 0 < F z → offB a z = false
  ok : ∀ z, 0 < F z → avB p a F K (F z - 1) (K z) = true

theorem LI.done {p : GP} {a : List Int} {F K : Int → Int} {clock X : Int} {R : Int → Int → Prop} (h : LI p a F K clock [] X R) (hX : p.n < X) (hR : ∀ z i, ¬ R z i) : Lost p a F K clock := by
  refine ⟨h.inv, fun z hz => h.off z hz ?_, fun z hz => ?_⟩
  · rcases h.inv z with h1 | h1 <;> omega
  · rcases h.ok z hz with h1 | ⟨y, h1, h2⟩ | h1
    · exact h1
    · simp at h1
    · exact absurd h1 (hR _ _)

/-- gain, under way. -/
structure GI (p : GP) (a : List Int) (F K : Int → Int) (clock C0 : Int) (l : List Int) (R : Int → Int → Prop) : Prop where
  lost : Lost p a F K clock
  cmp : ∀ z i, 1 ≤ z → z ≤ p.n → ¬ 0 < F z → offB a z = false → InHead p i z → avB p a F K i (clock + 1) = false ∨ (∃ y ∈ l, InBody p i y) ∨ R z i
  q : ∀ y ∈ l, 1 ≤ y ∧ y ≤ p.n
  cnt : l.length ≤ cntF F p.n.toNat
  clk : clock ≤ C0 + cntF F p.n.toNat

section gain
variable {p : GP} {a l : List Int} {F K : Int → Int} {clock C0 : Int} {R R' : Int → Int → Prop}

theorem GI.start (h : Lost p a F K clock) : GI p a F K clock clock [] (fun z _ => 1 ≤ z) :=
  ⟨h, fun z i h1 h2 h3 h4 h5 => .inr (.inr h1), fun y hy => by simp at hy, by simp, by omega⟩

theorem GI.push (h : GI p a F K clock C0 l R) (hc : 0 ≤ clock) (x i : Int) (h0 : ¬ 0 < F x) (hx : 1 ≤ x ∧ x ≤ p.n) (ho : offB a x = false) (hi : InHead p i x) (hav : avB p a F K i (clock + 1) = true) (hR : ∀ z j, z ≠ x → R z j → R' z j) :
    GI p a (setI F x (i + 1)) (setI K x (clock + 1)) (clock + 1) C0 (l ++ [x]) R' := by
  have hinv : SInv p (setI F x (i + 1)) (setI K x (clock + 1)) (clock + 1) := fun z => by
    by_cases e : z = x
    · subst e
      rw [setI_eq, setI_eq]
      have := hi.1
      exact .inr ⟨by omega, hx.1, hx.2, by rwa [show i + 1 - 1 = i by omega], by omega, by omega⟩
    · rw [setI_ne F _ e, setI_ne K _ e]
      rcases h.lost.inv z with h1 | h1
      · exact .inl h1
      · exact .inr ⟨h1.1, h1.2.1, h1.2.2.1, h1.2.2.2.1, h1.2.2.2.2.1, by omega⟩
  have hup := cntF_up F x (i + 1) h0 (by have := hi.1; omega) p.n.toNat hx.1 (by omega)
  refine ⟨⟨hinv, fun z hz => ?_, fun z hz => ?_⟩, fun z j h1 h2 h3 h4 h5 => ?_, fun y hy => ?_, ?_, ?_⟩
  · by_cases e : z = x
    · subst e; exact ho
    · rw [setI_ne F _ e] at hz; exact h.lost.off z hz
  · by_cases e : z = x
    · subst e
      rw [setI_eq, setI_eq, avB_new h0 (by omega), show i + 1 - 1 = i by omega]
      exact hav
    · rw [setI_ne F _ e] at hz ⊢
      rw [setI_ne K _ e]
      rcases h.lost.inv z with h1 | h1
      · omega
      · rw [avB_new h0 (by omega)]
        exact h.lost.ok z hz
  · have e : z ≠ x := fun e => by subst e; rw [setI_eq] at h3; have := hi.1; omega
    rw [setI_ne F _ e] at h3
    by_cases hb : x ∈ (ixR p.rules j.toNat).body
    · exact .inr (.inl ⟨x, by simp, h5.1, h5.2.1, hb⟩)
    · rw [avB_away hb, avB_time (b' := clock + 1) h.lost.inv (by omega) (by omega)]
      rcases h.cmp z j h1 h2 h3 h4 h5 with h6 | ⟨y, h6, h7⟩ | h6
      · exact .inl h6
      · exact .inr (.inl ⟨y, by simp [h6], h7⟩)
      · exact .inr (.inr (hR z j e h6))
  · simp only [List.mem_append, List.mem_singleton] at hy
    rcases hy with hy | rfl
    · exact h.q y hy
    · exact hx
  · have := h.cnt
    simp only [List.length_append, List.length_singleton]
    omega
  · have := h.clk
    rw [hup]; push_cast; omega

theorem GI.keep (h : GI p a F K clock C0 l R) (hR : ∀ z i, 1 ≤ z → z ≤ p.n → ¬ 0 < F z → offB a z = false → InHead p i z → R z i → avB p a F K i (clock + 1) = false ∨ R' z i) : GI p a F K clock C0 l R' := by
  refine ⟨h.lost, fun z i h1 h2 h3 h4 h5 => ?_, h.q, h.cnt, h.clk⟩
  rcases h.cmp z i h1 h2 h3 h4 h5 with h6 | h6 | h6
  · exact .inl h6
  · exact .inr (.inl h6)
  · rcases hR z i h1 h2 h3 h4 h5 h6 with h7 | h7
    · exact .inl h7
    · exact .inr (.inr h7)

theorem GI.pop {y : Int} (h : GI p a F K clock C0 (y :: l) R) (hR : ∀ z i, R z i → R' z i) (hy : ∀ z i, InHead p i z → InBody p i y → R' z i) : GI p a F K clock C0 l R' := by
  refine ⟨h.lost, fun z i h1 h2 h3 h4 h5 => ?_, fun y' hy' => h.q y' (.tail _ hy'), by have := h.cnt; simp only [List.length_cons] at this; omega, h.clk⟩
  rcases h.cmp z i h1 h2 h3 h4 h5 with h6 | ⟨y', h6, h7⟩ | h6
  · exact .inl h6
  · rcases List.mem_cons.1 h6 with rfl | h8
    · exact .inr (.inr (hy z i h5 h7))
    · exact .inr (.inl ⟨y', h8, h7⟩)
  · exact .inr (.inr (hR _ _ h6))

end gain

/-- What gain leaves. -/
structure Found (p : GP) (a : List Int) (F K : Int → Int) (clock : Int) : Prop where
  lost : Lost p a F K clock
  cmp : ∀ z i, 1 ≤ z → z ≤ p.n → ¬ 0 < F z → offB a z = false → InHead p i z → avB p a F K i (clock + 1) = false

theorem GI.done {p : GP} {a : List Int} {F K : Int → Int} {clock C0 : Int} {R : Int → Int → Prop} (h : GI p a F K clock C0 [] R) (hR : ∀ z i, ¬ R z i) : Found p a F K clock ∧ clock ≤ C0 + cntF F p.n.toNat := by
  refine ⟨⟨h.lost, fun z i h1 h2 h3 h4 h5 => ?_⟩, h.clk⟩
  rcases h.cmp z i h1 h2 h3 h4 h5 with h6 | ⟨y, h6, h7⟩ | h6
  · exact h6
  · simp at h6
  · exact absurd h6 (hR _ _)

/-! ### What still is to be asked, in the two inner loops -/
def R3 (row : List Int) (k : Nat) (_ i : Int) : Prop := ∃ j, k ≤ j ∧ j < row.length ∧ i = ix row j
def R4 (row head : List Int) (k m : Nat) (z i : Int) : Prop := (i = ix row k ∧ ∃ j, m ≤ j ∧ j < head.length ∧ z = ix head j) ∨ ∃ j, k < j ∧ j < row.length ∧ i = ix row j

theorem ix_of_mem {l : List Int} {x : Int} (h : x ∈ l) : ∃ j, j < l.length ∧ x = ix l j := by
  obtain ⟨j, hj, e⟩ := List.mem_iff_getElem.1 h
  exact ⟨j, hj, by simp [ix, List.getD_eq_getElem?_getD, List.getElem?_eq_getElem hj, e]⟩
theorem ix_mem {l : List Int} {j : Nat} (hj : j < l.length) : ix l j ∈ l := by
  have e : ix l j = l[j] := by simp [ix, List.getD_eq_getElem?_getD, List.getElem?_eq_getElem hj]
  rw [e]; exact List.getElem_mem hj

theorem R4.start {row head : List Int} {k : Nat} {z i : Int} (h : R3 row k z i) (hz : i = ix row k → z ∈ head) : R4 row head k 0 z i := by
  obtain ⟨j, h1, h2, h3⟩ := h
  rcases Nat.eq_or_lt_of_le h1 with rfl | h4
  · obtain ⟨m, h5, h6⟩ := ix_of_mem (hz h3)
    exact .inl ⟨h3, m, Nat.zero_le _, h5, h6⟩
  · exact .inr ⟨j, h4, h2, h3⟩
theorem R4.next {row head : List Int} {k m : Nat} {z i : Int} (h : R4 row head k m z i) : (z = ix head m ∧ i = ix row k) ∨ R4 row head k (m + 1) z i := by
  rcases h with ⟨h1, j, h2, h3, h4⟩ | h1
  · rcases Nat.eq_or_lt_of_le h2 with rfl | h5
    · exact .inl ⟨h4, h1⟩
    · exact .inr (.inl ⟨h1, j, h5, h3, h4⟩)
  · exact .inr (.inr h1)
theorem R4.done {row head : List Int} {k : Nat} {z i : Int} (h : R4 row head k head.length z i) : R3 row (k + 1) z i := by
  rcases h with ⟨h1, j, h2, h3, h4⟩ | ⟨j, h1, h2, h3⟩
  · omega
  · exact ⟨j, h1, h2, h3⟩
theorem R3.done {row : List Int} {z i : Int} : ¬ R3 row row.length z i := by
  rintro ⟨j, h1, h2, h3⟩; omega
theorem R3.start {p : GP} {R : Int → List Int} (h : RowsAt (fun x => decide (0 < x)) (fun i => (ixR p.rules i).body) p.rules.length 0 R) {y z i : Int} (hy : 1 ≤ y) (hb : InBody p i y) : R3 (R y) 0 z i := by
  have hm : i ∈ R y := ((h y).2 i).2 ⟨decide_eq_true (by omega), .inl hb⟩
  obtain ⟨j, h1, h2⟩ := ix_of_mem hm
  exact ⟨j, Nat.zero_le _, h1, h2⟩
theorem rowU_at {p : GP} {R : Int → List Int} (h : RowsAt (fun x => decide (0 < x)) (fun i => (ixR p.rules i).body) p.rules.length 0 R) {y : Int} {k : Nat} (hk : k < (R y).length) : ∃ i : Nat, ix (R y) k = i ∧ i < p.rules.length := by
  have := ((h y).2 _).1 (ix_mem hk)
  simp only [List.take_zero, List.not_mem_nil, and_false, or_false] at this
  exact ⟨(ix (R y) k).toNat, by omega, by omega⟩

end Go.Proofs.Ytkjpnpkmnpofgaa
