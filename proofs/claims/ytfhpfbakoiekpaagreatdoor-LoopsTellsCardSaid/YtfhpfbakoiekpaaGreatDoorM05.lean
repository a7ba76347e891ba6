/- My texts Plain2, Plain3, Ref33, Fn0, Few, Lp1, Mem, LeastP, Red1, Red2, merged. -/
import Derived.Test.YtfhpfbakoiekpaaGreatDoorM04
import Derived.Deep.DeepCutAuto
import Derived.Test.YtfhpfbakoiekpaaGreatDoorM00
import Derived.Laws.EntriesVeiled

/- The plain law of the search: what lose and gain keep, and that what is founded in the end is the least closed set. -/
namespace Go.Proofs.YtfhpfbakoiekpaaGreatDoor
open Go.RowKit

def InHead (p : GP) (i x : Int) : Prop := 0 ≤ i ∧ i < p.rules.length ∧ x ∈ (ixR p.rules i.toNat).head
def InBody (p : GP) (i x : Int) : Prop := 0 ≤ i ∧ i < p.rules.length ∧ x ∈ (ixR p.rules i.toNat).body
def avB (p : GP) (a : List Int) (F K : Int → Int) (i before : Int) : Bool := availB p a F K i.toNat before

/-- What a state of the sources is at all times. -/
def SInv (p : GP) (F K : Int → Int) (clock : Int) : Prop :=
  ∀ x, F x = 0 ∨ (0 < F x ∧ 1 ≤ x ∧ x ≤ p.n ∧ InHead p (F x - 1) x ∧ 1 ≤ K x ∧ K x ≤ clock)

theorem cntF_le (F : Int → Int) : ∀ n, cntF F n ≤ n
  | 0 => Nat.le_refl _
  | n + 1 => by have := cntF_le F n; unfold cntF; split <;> omega

theorem setI_eq (F : Int → Int) (x v : Int) : setI F x v x = v := by simp [setI]
theorem setI_ne (F : Int → Int) {x y : Int} (v : Int) (h : y ≠ x) : setI F x v y = F y := by simp [setI, h]

theorem cntF_set_out (F : Int → Int) (x v : Int) : ∀ n : Nat, (n : Int) < x → cntF (setI F x v) n = cntF F n
  | 0, _ => rfl
  | n + 1, h => by
    unfold cntF
    rw [cntF_set_out F x v n (by omega), setI_ne F v (by omega)]

theorem cntF_up (F : Int → Int) (x v : Int) (h0 : ¬ 0 < F x) (hv : 0 < v) : ∀ n : Nat, 1 ≤ x → x ≤ n → cntF (setI F x v) n = cntF F n + 1
  | 0, h1, h2 => by omega
  | n + 1, h1, h2 => by
    unfold cntF
    by_cases e : x = (n : Int) + 1
    · subst e
      rw [cntF_set_out F _ v n (by omega), setI_eq, if_pos hv, if_neg h0]
    · rw [cntF_up F x v h0 hv n h1 (by omega), setI_ne F v (fun e' => e e'.symm)]
      omega

theorem cntF_down (F : Int → Int) (x : Int) (h0 : 0 < F x) : ∀ n : Nat, 1 ≤ x → x ≤ n → cntF (setI F x 0) n + 1 = cntF F n
  | 0, h1, h2 => by omega
  | n + 1, h1, h2 => by
    unfold cntF
    by_cases e : x = (n : Int) + 1
    · subst e
      rw [cntF_set_out F _ 0 n (by omega), setI_eq, if_neg (by omega), if_pos h0]
    · have := cntF_down F x h0 n h1 (by omega)
      rw [setI_ne F 0 (fun e' => e e'.symm)]
      omega

section avail
variable {p : GP} {a : List Int} {F K F' K' : Int → Int}

theorem avSum_congr {r : GR} {b b' : Int} (h : ∀ l ∈ r.body, holdsB a F K b l = holdsB a F' K' b' l) : ∀ k, k ≤ r.body.length → avSum r a F K b k = avSum r a F' K' b' k
  | 0, _ => rfl
  | k + 1, hk => by
    unfold avSum
    rw [avSum_congr h k (by omega), h (ix r.body k) (by
      have e : ix r.body k = r.body[k] := by simp [ix, List.getD_eq_getElem?_getD, List.getElem?_eq_getElem (show k < r.body.length by omega)]
      rw [e]; exact List.getElem_mem (by omega))]

theorem avB_congr {i b b' : Int} (h : ∀ l ∈ (ixR p.rules i.toNat).body, holdsB a F K b l = holdsB a F' K' b' l) : avB p a F K i b = avB p a F' K' i b' := by
  unfold avB availB
  rw [avSum_congr h _ (Nat.le_refl _)]
  congr 2
  have e : ∀ k, k < (ixR p.rules i.toNat).body.length → holdsB a F K b (ix (ixR p.rules i.toNat).body k) = holdsB a F' K' b' (ix (ixR p.rules i.toNat).body k) := fun k hk => h _ (by
    have e : ix (ixR p.rules i.toNat).body k = (ixR p.rules i.toNat).body[k] := by simp [ix, List.getD_eq_getElem?_getD, List.getElem?_eq_getElem hk]
    rw [e]; exact List.getElem_mem hk)
  unfold allR
  rw [Bool.eq_iff_iff]
  simp only [List.all_eq_true, List.mem_range]
  constructor
  · intro h1 k hk; rw [← e k hk]; exact h1 k hk
  · intro h1 k hk; rw [e k hk]; exact h1 k hk

/-- An atom that is not in the body does not matter. -/
theorem avB_away {i b x u v : Int} (h : x ∉ (ixR p.rules i.toNat).body) : avB p a (setI F x u) (setI K x v) i b = avB p a F K i b :=
  avB_congr fun l hl => by
    have : l ≠ x := fun e => h (e ▸ hl)
    unfold holdsB
    rw [setI_ne F u this, setI_ne K v this]

/-- A new source at the time c does not matter to what was to be founded before. -/
theorem avB_new {i b x u c : Int} (h0 : ¬ 0 < F x) (hb : b ≤ c) : avB p a (setI F x u) (setI K x c) i b = avB p a F K i b :=
  avB_congr fun l hl => by
    unfold holdsB
    by_cases e : l = x
    · subst e
      rw [setI_eq, setI_eq]
      have h1 : decide (c < b) = false := decide_eq_false (by omega)
      have h2 : decide (0 < F l) = false := decide_eq_false h0
      rw [h1, h2]; simp
    · rw [setI_ne F u e, setI_ne K c e]

theorem avB_time {i b b' clock : Int} (h : SInv p F K clock) (hb : clock < b) (hb' : clock < b') : avB p a F K i b = avB p a F K i b' :=
  avB_congr fun l hl => by
    unfold holdsB
    rcases h l with h1 | h1
    · rw [h1]; simp
    · have h2 : decide (K l < b) = true := decide_eq_true (by omega)
      have h3 : decide (K l < b') = true := decide_eq_true (by omega)
      rw [h2, h3]

end avail

/-- lose, under way: 'X' the first atom that has not been asked, R what still is to be asked. -/
structure LI (p : GP) (a : List Int) (F K : Int → Int) (clock : Int) (l : List Int) (X : Int) (R : Int → Int → Prop) : Prop where
  inv : SInv p F K clock
  off : ∀ z, 0 < F z → z < X → offB a z = false
  ok : ∀ z, 0 < F z → avB p a F K (F z - 1) (K z) = true ∨ (∃ y ∈ l, InBody p (F z - 1) y) ∨ R z (F z - 1)
  q : ∀ y ∈ l, 1 ≤ y ∧ y ≤ p.n
  cnt : (cntF F p.n.toNat + l.length : Int) ≤ p.n

section lose
variable {p : GP} {a l : List Int} {F K : Int → Int} {clock X X' : Int} {R R' : Int → Int → Prop}

theorem LI.start (h : SInv p F K clock) (hn : 0 ≤ p.n) : LI p a F K clock [] 1 (fun z _ => 1 ≤ z) := by
  refine ⟨h, fun z hz hx => ?_, fun z hz => .inr (.inr ?_), fun y hy => by simp at hy, ?_⟩
  · rcases h z with h1 | h1 <;> omega
  · rcases h z with h1 | h1 <;> omega
  · have := cntF_le F p.n.toNat; simp; omega

theorem LI.drop (h : LI p a F K clock l X R) (x : Int) (hx : 0 < F x) (hX : ∀ z, z < X' → z ≠ x → z < X) (hR : ∀ z i, z ≠ x → R z i → R' z i) : LI p a (setI F x 0) (setI K x 0) clock (l ++ [x]) X' R' := by
  have hi := h.inv x
  refine ⟨fun z => ?_, fun z hz hzx => ?_, fun z hz => ?_, fun y hy => ?_, ?_⟩
  · by_cases e : z = x
    · subst e; left; rw [setI_eq]
    · rw [setI_ne F 0 e, setI_ne K 0 e]; exact h.inv z
  · have e : z ≠ x := fun e => by subst e; rw [setI_eq] at hz; omega
    rw [setI_ne F 0 e] at hz
    exact h.off z hz (hX z hzx e)
  · have e : z ≠ x := fun e => by subst e; rw [setI_eq] at hz; omega
    rw [setI_ne F 0 e] at hz ⊢
    rw [setI_ne K 0 e]
    by_cases hb : x ∈ (ixR p.rules (F z - 1).toNat).body
    · right; left
      refine ⟨x, by simp, ?_⟩
      rcases h.inv z with h1 | h1
      · omega
      · have := h1.2.2.2.1; exact ⟨this.1, this.2.1, hb⟩
    · rw [avB_away hb]
      rcases h.ok z hz with h1 | ⟨y, h1, h2⟩ | h1
      · exact .inl h1
      · exact .inr (.inl ⟨y, by simp [h1], h2⟩)
      · exact .inr (.inr (hR z _ e h1))
  · simp only [List.mem_append, List.mem_singleton] at hy
    rcases hy with hy | rfl
    · exact h.q y hy
    · omega
  · have h2 := h.cnt
    have h3 := cntF_down F x hx p.n.toNat (by omega) (by omega)
    simp only [List.length_append, List.length_singleton]
    push_cast
    omega

theorem LI.keep (h : LI p a F K clock l X R) (hX : ∀ z, 0 < F z → z < X' → z < X ∨ offB a z = false) (hR : ∀ z, 0 < F z → R z (F z - 1) → avB p a F K (F z - 1) (K z) = true ∨ R' z (F z - 1)) : LI p a F K clock l X' R' := by
  refine ⟨h.inv, fun z hz hzx => ?_, fun z hz => ?_, h.q, h.cnt⟩
  · rcases hX z hz hzx with h1 | h1
    · exact h.off z hz h1
    · exact h1
  · rcases h.ok z hz with h1 | h1 | h1
    · exact .inl h1
    · exact .inr (.inl h1)
    · rcases hR z hz h1 with h2 | h2
      · exact .inl h2
      · exact .inr (.inr h2)

end lose

/-- What lose leaves. -/
structure Lost (p : GP) (a : List Int) (F K : Int → Int) (clock : Int) : Prop where
  inv : SInv p F K clock
  off : ∀ z, 0 < F z → offB a z = false
  ok : ∀ z, 0 < F z → avB p a F K (F z - 1) (K z) = true

theorem LI.done {p : GP} {a : List Int} {F K : Int → Int} {clock X : Int} {R : Int → Int → Prop} (h : LI p a F K clock [] X R) (hX : p.n < X) (hR : ∀ z i, ¬ R z i) : Lost p a F K clock := by
  refine ⟨h.inv, fun z hz => h.off z hz ?_, fun z hz => ?_⟩
  · rcases h.inv z with h1 | h1 <;> omega
  · rcases h.ok z hz with h1 | ⟨y, h1, h2⟩ | h1
    · exact h1
    · simp at h1
    · exact absurd h1 (hR _ _)

/-- gain, under way. -/
structure GI (p : GP) (a : List Int) (F K : Int → Int) (clock C0 : Int) (l : List Int) (R : Int → Int → Prop) : Prop where
  lost : Lost p a F K clock
  cmp : ∀ z i, 1 ≤ z → z ≤ p.n → ¬ 0 < F z → offB a z = false → InHead p i z → avB p a F K i (clock + 1) = false ∨ (∃ y ∈ l, InBody p i y) ∨ R z i
  q : ∀ y ∈ l, 1 ≤ y ∧ y ≤ p.n
  cnt : l.length ≤ cntF F p.n.toNat
  clk : clock ≤ C0 + cntF F p.n.toNat

section gain
variable {p : GP} {a l : List Int} {F K : Int → Int} {clock C0 : Int} {R R' : Int → Int → Prop}

theorem GI.start (h : Lost p a F K clock) : GI p a F K clock clock [] (fun z _ => 1 ≤ z) :=
  ⟨h, fun z i h1 h2 h3 h4 h5 => .inr (.inr h1), fun y hy => by simp at hy, by simp, by omega⟩

theorem GI.push (h : GI p a F K clock C0 l R) (hc : 0 ≤ clock) (x i : Int) (h0 : ¬ 0 < F x) (hx : 1 ≤ x ∧ x ≤ p.n) (ho : offB a x = false) (hi : InHead p i x) (hav : avB p a F K i (clock + 1) = true) (hR : ∀ z j, z ≠ x → R z j → R' z j) :
    GI p a (setI F x (i + 1)) (setI K x (clock + 1)) (clock + 1) C0 (l ++ [x]) R' := by
  have hinv : SInv p (setI F x (i + 1)) (setI K x (clock + 1)) (clock + 1) := fun z => by
    by_cases e : z = x
    · subst e
      rw [setI_eq, setI_eq]
      have := hi.1
      exact .inr ⟨by omega, hx.1, hx.2, by rwa [show i + 1 - 1 = i by omega], by omega, by omega⟩
    · rw [setI_ne F _ e, setI_ne K _ e]
      rcases h.lost.inv z with h1 | h1
      · exact .inl h1
      · exact .inr ⟨h1.1, h1.2.1, h1.2.2.1, h1.2.2.2.1, h1.2.2.2.2.1, by omega⟩
  have hup := cntF_up F x (i + 1) h0 (by have := hi.1; omega) p.n.toNat hx.1 (by omega)
  refine ⟨⟨hinv, fun z hz => ?_, fun z hz => ?_⟩, fun z j h1 h2 h3 h4 h5 => ?_, fun y hy => ?_, ?_, ?_⟩
  · by_cases e : z = x
    · subst e; exact ho
    · rw [setI_ne F _ e] at hz; exact h.lost.off z hz
  · by_cases e : z = x
    · subst e
      rw [setI_eq, setI_eq, avB_new h0 (by omega), show i + 1 - 1 = i by omega]
      exact hav
    · rw [setI_ne F _ e] at hz ⊢
      rw [setI_ne K _ e]
      rcases h.lost.inv z with h1 | h1
      · omega
      · rw [avB_new h0 (by omega)]
        exact h.lost.ok z hz
  · have e : z ≠ x := fun e => by subst e; rw [setI_eq] at h3; have := hi.1; omega
    rw [setI_ne F _ e] at h3
    by_cases hb : x ∈ (ixR p.rules j.toNat).body
    · exact .inr (.inl ⟨x, by simp, h5.1, h5.2.1, hb⟩)
    · rw [avB_away hb, avB_time (b' := clock + 1) h.lost.inv (by omega) (by omega)]
      rcases h.cmp z j h1 h2 h3 h4 h5 with h6 | ⟨y, h6, h7⟩ | h6
      · exact .inl h6
      · exact .inr (.inl ⟨y, by simp [h6], h7⟩)
      · exact .inr (.inr (hR z j e h6))
  · simp only [List.mem_append, List.mem_singleton] at hy
    rcases hy with hy | rfl
    · exact h.q y hy
    · exact hx
  · have := h.cnt
    simp only [List.length_append, List.length_singleton]
    omega
  · have := h.clk
    rw [hup]; push_cast; omega

theorem GI.keep (h : GI p a F K clock C0 l R) (hR : ∀ z i, 1 ≤ z → z ≤ p.n → ¬ 0 < F z → offB a z = false → InHead p i z → R z i → avB p a F K i (clock + 1) = false ∨ R' z i) : GI p a F K clock C0 l R' := by
  refine ⟨h.lost, fun z i h1 h2 h3 h4 h5 => ?_, h.q, h.cnt, h.clk⟩
  rcases h.cmp z i h1 h2 h3 h4 h5 with h6 | h6 | h6
  · exact .inl h6
  · exact .inr (.inl h6)
  · rcases hR z i h1 h2 h3 h4 h5 h6 with h7 | h7
    · exact .inl h7
    · exact .inr (.inr h7)

end gain

/-- What gain leaves. -/
structure Found (p : GP) (a : List Int) (F K : Int → Int) (clock : Int) : Prop where
  lost : Lost p a F K clock
  cmp : ∀ z i, 1 ≤ z → z ≤ p.n → ¬ 0 < F z → offB a z = false → InHead p i z → avB p a F K i (clock + 1) = false

theorem GI.done {p : GP} {a : List Int} {F K : Int → Int} {clock C0 : Int} {R : Int → Int → Prop} (h : GI p a F K clock C0 [] R) (hR : ∀ z i, ¬ R z i) : Found p a F K clock ∧ clock ≤ C0 + cntF F p.n.toNat := by
  refine ⟨⟨h.lost, fun z i h1 h2 h3 h4 h5 => ?_⟩, h.clk⟩
  rcases h.cmp z i h1 h2 h3 h4 h5 with h6 | ⟨y, h6, h7⟩ | h6
  · exact h6
  · simp at h6
  · exact absurd h6 (hR _ _)

/-! ### What still is to be asked, in the two inner loops -/
def R3 (row : List Int) (k : Nat) (_ i : Int) : Prop := ∃ j, k ≤ j ∧ j < row.length ∧ i = ix row j
def R4 (row head : List Int) (k m : Nat) (z i : Int) : Prop := (i = ix row k ∧ ∃ j, m ≤ j ∧ j < head.length ∧ z = ix head j) ∨ ∃ j, k < j ∧ j < row.length ∧ i = ix row j

theorem ix_of_mem {l : List Int} {x : Int} (h : x ∈ l) : ∃ j, j < l.length ∧ x = ix l j := by
  obtain ⟨j, hj, e⟩ := List.mem_iff_getElem.1 h
  exact ⟨j, hj, by simp [ix, List.getD_eq_getElem?_getD, List.getElem?_eq_getElem hj, e]⟩
theorem R4.start {row head : List Int} {k : Nat} {z i : Int} (h : R3 row k z i) (hz : i = ix row k → z ∈ head) : R4 row head k 0 z i := by
  obtain ⟨j, h1, h2, h3⟩ := h
  rcases Nat.eq_or_lt_of_le h1 with rfl | h4
  · obtain ⟨m, h5, h6⟩ := ix_of_mem (hz h3)
    exact .inl ⟨h3, m, Nat.zero_le _, h5, h6⟩
  · exact .inr ⟨j, h4, h2, h3⟩
theorem R4.next {row head : List Int} {k m : Nat} {z i : Int} (h : R4 row head k m z i) : (z = ix head m ∧ i = ix row k) ∨ R4 row head k (m + 1) z i := by
  rcases h with ⟨h1, j, h2, h3, h4⟩ | h1
  · rcases Nat.eq_or_lt_of_le h2 with rfl | h5
    · exact .inl ⟨h4, h1⟩
    · exact .inr (.inl ⟨h1, j, h5, h3, h4⟩)
  · exact .inr (.inr h1)
theorem R4.done {row head : List Int} {k : Nat} {z i : Int} (h : R4 row head k head.length z i) : R3 row (k + 1) z i := by
  rcases h with ⟨h1, j, h2, h3, h4⟩ | ⟨j, h1, h2, h3⟩
  · omega
  · exact ⟨j, h1, h2, h3⟩
theorem R3.done {row : List Int} {z i : Int} : ¬ R3 row row.length z i := by
  rintro ⟨j, h1, h2, h3⟩; omega
theorem R3.start {p : GP} {R : Int → List Int} (h : RowsAt (fun x => decide (0 < x)) (fun i => (ixR p.rules i).body) p.rules.length 0 R) {y z i : Int} (hy : 1 ≤ y) (hb : InBody p i y) : R3 (R y) 0 z i := by
  have hm : i ∈ R y := ((h y).2 i).2 ⟨decide_eq_true (by omega), .inl hb⟩
  obtain ⟨j, h1, h2⟩ := ix_of_mem hm
  exact ⟨j, Nat.zero_le _, h1, h2⟩
end Go.Proofs.YtfhpfbakoiekpaaGreatDoor

/- The plain law of chapter 33: availability under a set; the founded set is the least closed one; adding sources round by round. -/
namespace Go.Proofs.YtfhpfbakoiekpaaGreatDoor
open Go.RowKit

section mono
variable {p : GP} {a : List Int} {F K F' K' : Int → Int}

theorem avSum_mono {r : GR} {b b' : Int} (hw : ∀ k, k < r.w.length → 1 ≤ ix r.w k) (hl : r.w.length = r.body.length) (h : ∀ l ∈ r.body, holdsB a F K b l = true → holdsB a F' K' b' l = true) : ∀ k, k ≤ r.body.length → avSum r a F K b k ≤ avSum r a F' K' b' k
  | 0, _ => Int.le_refl _
  | k + 1, hk => by
    have h1 := avSum_mono hw hl h k (by omega)
    have h2 := hw k (by omega)
    have h3 := h (ix r.body k) (ix_mem (by omega))
    unfold avSum
    cases h4 : holdsB a F K b (ix r.body k) with
    | true => rw [h3 h4]; simp only [if_true]; omega
    | false =>
      simp only [Bool.false_eq_true, if_false]
      split <;> omega

theorem avB_mono {i : Int} {b b' : Int} (hv : validE p = 0) (hi : 0 ≤ i ∧ i < p.rules.length) (h : ∀ l ∈ (ixR p.rules i.toNat).body, holdsB a F K b l = true → holdsB a F' K' b' l = true) (hav : avB p a F K i b = true) : avB p a F' K' i b' = true := by
  unfold avB availB at *
  simp only [Bool.and_eq_true] at *
  refine ⟨hav.1, ?_⟩
  have h2 := hav.2
  have hil : i.toNat < p.rules.length := by omega
  cases hs : (ixR p.rules i.toNat).sum with
  | true =>
    rw [hs] at h2
    simp only [if_true, decide_eq_true_eq] at h2 ⊢
    obtain ⟨h3, h4, -⟩ := weights_sum ((validP hv).sum i.toNat hil hs)
    have := avSum_mono h4 (by omega) h _ (Nat.le_refl _)
    omega
  | false =>
    rw [hs] at h2
    simp only [Bool.false_eq_true, if_false] at h2 ⊢
    exact allR_true fun k hk => h _ (ix_mem hk) (allR_get h2 k hk)

end mono

/-- Availability under a set, the set as a function that is positive at its elements. -/
def avS (p : GP) (a : List Int) (G : Int → Int) (i : Int) : Bool := avB p a G (fun _ => 0) i 1

theorem holds_set {a : List Int} {G : Int → Int} {l : Int} : holdsB a G (fun _ => 0) 1 l = (!offB a l && (decide (l < 0) || decide (0 < G l))) := by
  unfold holdsB
  have : decide ((0 : Int) < 1) = true := decide_eq_true (by omega)
  rw [this, Bool.and_true]

/-- A set (positive at its elements) that holds whatever has an available rule. -/
def Closed (p : GP) (a : List Int) (G : Int → Int) : Prop :=
  ∀ x i, 1 ≤ x → x ≤ p.n → offB a x = false → InHead p i x → avS p a G i = true → 0 < G x

structure IsFnd (p : GP) (a : List Int) (G : Int → Int) : Prop where
  dom : ∀ x, 0 < G x → 1 ≤ x ∧ x ≤ p.n
  closed : Closed p a G
  least : ∀ T, Closed p a T → ∀ x, 0 < G x → 0 < T x

theorem IsFnd.unique {p : GP} {a : List Int} {G G' : Int → Int} (h : IsFnd p a G) (h' : IsFnd p a G') (x : Int) : 0 < G x ↔ 0 < G' x :=
  ⟨h.least G' h'.closed x, h'.least G h.closed x⟩

/-! ### Adding sources, round by round -/
/-- A round over 1 .. n, under way at x; G0 what stood at its start. -/
structure Round (p : GP) (F K G0 G : Int → Int) (x : Int) : Prop where
  one : ∀ y, G y = 0 ∨ (G y = 1 ∧ 0 < F y)
  up : ∀ y, 0 < G0 y → 0 < G y
  done : ∀ y, 1 ≤ y → y < x → 0 < F y → (∀ l, 0 < F l → K l < K y → 0 < G0 l) → 0 < G y

section round
variable {p : GP} {a : List Int} {F K G0 G : Int → Int} {clock x : Int}

theorem Round.start (h : ∀ y, G y = 0 ∨ (G y = 1 ∧ 0 < F y)) : Round p F K G G 1 := ⟨h, fun _ h => h, fun y h1 h2 => by omega⟩

theorem Round.add (h : Round p F K G0 G x) (hF : 0 < F x) : Round p F K G0 (setI G x 1) (x + 1) := by
  refine ⟨fun y => ?_, fun y hy => ?_, fun y h1 h2 h3 h4 => ?_⟩ <;> by_cases e : y = x
  · subst e; rw [setI_eq]; exact .inr ⟨rfl, hF⟩
  · rw [setI_ne G _ e]; exact h.one y
  · subst e; rw [setI_eq]; omega
  · rw [setI_ne G _ e]; exact h.up y hy
  · subst e; rw [setI_eq]; omega
  · rw [setI_ne G _ e]; exact h.done y h1 (by omega) h3 h4

theorem Round.skip (hv : validE p = 0) (hl : Lost p a F K clock) (h : Round p F K G0 G x) (hs : ¬ 0 < F x ∨ 0 < G x ∨ avS p a G (F x - 1) = false) : Round p F K G0 G (x + 1) := by
  refine ⟨h.one, h.up, fun y h1 h2 h3 h4 => ?_⟩
  by_cases e : y = x
  · subst e
    rcases hs with h5 | h5 | h5
    · exact absurd h3 h5
    · exact h5
    · have hin : InHead p (F y - 1) y := by
        rcases hl.inv y with h6 | h6
        · omega
        · exact h6.2.2.2.1
      have : avS p a G (F y - 1) = true := avB_mono hv ⟨hin.1, hin.2.1⟩ (fun l hl hh => by
        rw [holds_set]
        unfold holdsB at hh
        simp only [Bool.and_eq_true, Bool.or_eq_true, decide_eq_true_eq] at hh ⊢
        exact ⟨hh.1, hh.2.imp id (fun h6 => h.up l (h4 l h6.1 h6.2))⟩) (hl.ok y h3)
      rw [h5] at this; cases this
  · exact h.done y h1 (by omega) h3 h4

end round

end Go.Proofs.YtfhpfbakoiekpaaGreatDoor

/- The references: ostlerref24.Value, ostlerref26.In, ostlerref33. -/
namespace Go.Proofs.YtfhpfbakoiekpaaGreatDoor
open Go.RowKit

set_option maxHeartbeats 1000000 in
theorem in_any (v : Value) (l : List Int) (w : World) (h : Ints w v l) (x : Int) :
    Calls Tryz.prog 31 #[v, .int .i64 x] w fun e w' => e = .returned (.bool (decide (x ∈ l))) ∧ w = w' := by
  obtain ⟨a, c, rfl, -, hl, -, hcell⟩ := h.form
  have HF := Lib.hid h.2
  clear h
  go_enter Tryz.func31, Tryz.ntmps31
  go_wp2
  go_loop [5] (fun i => ∃ k : Nat, k ≤ l.length ∧ i = .int .i64 k ∧ Hid (∀ j, j < k → ix l j ≠ x)) (fun i => l.length - (intOf i).toNat)
  case atStart => exact ⟨0, by omega, rfl, Lib.hid fun j hj => absurd hj (Nat.not_lt_zero _)⟩
  case round =>
    obtain ⟨k, hk, rfl, HA⟩ := hrel
    by_cases hlt : k < l.length
    · obtain ⟨b, off, rfl, hbl, hc⟩ := hcell (by omega)
      have hk1 := hc k hlt
      clear hc hcell
      by_cases he : ix l k = x
      · have HM : Hid (decide (x ∈ l) = true) := Lib.hid (decide_eq_true (he ▸ ix_mem hlt))
        have he' : (ix l k == x) = true := by simp [he]
        clear he
        go_wp2
        go_ret
        exact ⟨ret_bool HM.out.symm, rfl⟩
      · have HN := Lib.hid (lt_succ_all HA.out he)
        have he' : (ix l k == x) = false := by simp [he]
        clear he
        go_wp2
        first
          | (go_round
             case rel => (exact ⟨k + 1, by omega, by go_num, HN⟩)
             case measure => (simp [intOf]; omega))
          | (refine ⟨?_, ?_⟩
             · (exact ⟨k + 1, by omega, by go_num, HN⟩)
             · (simp [intOf]; omega))
    · have HM : Hid (decide (x ∈ l) = false) := Lib.hid (decide_eq_false (fun hm => by
        obtain ⟨j, hj, e⟩ := ix_of_mem hm
        exact HA.out j (by omega) e.symm))
      go_wp2
      go_ret
      exact ⟨ret_bool HM.out.symm, rfl⟩

end Go.Proofs.YtfhpfbakoiekpaaGreatDoor

/- the first place at which something holds (what slices.IndexFunc with a closure returns). -/
namespace Go.Proofs.YtfhpfbakoiekpaaGreatDoor
open Go.RowKit

/-- The first place at which g holds; -1. -/
def IxP (n : Nat) (g : Nat → Bool) (r : Int) : Prop := (r = -1 ∧ ∀ j, j < n → g j = false) ∨ ∃ k : Nat, k < n ∧ r = k ∧ g k = true ∧ ∀ j, j < k → g j = false

def IxR (n : Nat) (g : Nat → Bool) (w : World) (i : Value) (wx : World) : Prop := ∃ k : Nat, k ≤ n ∧ i = .int .i64 k ∧ (∀ j, j < k → g j = false) ∧ Below w.heap.size w wx

theorem IxP.any {n : Nat} {g : Nat → Bool} {r : Int} (h : IxP n g r) : decide (0 ≤ r) = anyR n g := by
  rcases h with ⟨rfl, h⟩ | ⟨k, h1, rfl, h2, h3⟩
  · rw [anyR_false h]; rfl
  · rw [anyR_true k h1 h2, decide_eq_true (by omega)]

end Go.Proofs.YtfhpfbakoiekpaaGreatDoor

/- ostlerlaw26.Few. -/
namespace Go.Proofs.YtfhpfbakoiekpaaGreatDoor
open Go.RowKit

def fewAt (r : GR) : Bool := decide (r.head.length ≤ 10) && decide (r.body.length ≤ 20) && decide (r.w.length ≤ 20)
def fewB (p : GP) : Bool := decide (p.n ≤ 10) && decide (p.names.length ≤ 10) && decide (p.rules.length ≤ 12) && allR p.rules.length (fun i => fewAt (ixR p.rules i))

def FewRel (p : GP) (w : World) (i : Value) (wx : World) : Prop := ∃ k : Nat, k ≤ p.rules.length ∧ i = .int .i64 k ∧ (∀ j, j < k → fewAt (ixR p.rules j) = true) ∧ Below w.heap.size w wx

set_option maxHeartbeats 1000000 in
set_option maxRecDepth 100000 in
theorem few_any (v : Value) (p : GP) (w : World) (h : ProgIs w v p) :
    Calls Tryz.prog 5 #[v] w fun e w' => e = .returned (.bool (fewB p)) ∧ Below w.heap.size w w' := by
  obtain ⟨vn, vs, vr, vm, rfl, hn, hnames, hshown, hrules, hmin⟩ := h
  obtain ⟨a0, c0, rfl, -, hl0, -⟩ := hnames.form
  obtain ⟨a1, c1, rfl, -, hl1, -, hcell⟩ := hrules.form
  unfold InI at hn
  have hal := bal (Below.refl w.heap.size w) (.cells #[.int .i64 p.n, .slice a0 p.names.length c0, vs, .slice a1 p.rules.length c1, vm] 27)
  clear hnames hshown hrules hmin
  by_cases h1 : p.n ≤ 10
  · by_cases h2 : p.names.length ≤ 10
    · by_cases h3 : p.rules.length ≤ 12
      · have HF : Hid (fewB p = allR p.rules.length (fun i => fewAt (ixR p.rules i))) := Lib.hid (by simp [fewB, h1, h2, h3])
        go_enter Tryz.func5, Tryz.ntmps5
        go_wp2
        have hbk : Blk (w.alloc (.cells #[.int .i64 p.n, .slice a0 p.names.length c0, vs, .slice a1 p.rules.length c1, vm] 27)) w.heap.size _ _ := Blk.new w [.int .i64 p.n, .slice a0 p.names.length c0, vs, .slice a1 p.rules.length c1, vm] _
        generalize w.alloc (.cells #[.int .i64 p.n, .slice a0 p.names.length c0, vs, .slice a1 p.rules.length c1, vm] 27) = W at hal hbk ⊢
        go_loopw [23] (fun i wx => FewRel p w i wx) (fun i _ => p.rules.length - (intOf i).toNat)
        case atStart => exact ⟨0, by omega, rfl, fun j hj => absurd hj (Nat.not_lt_zero _), hal⟩
        case round =>
          obtain ⟨k, hk, rfl, hall, hb⟩ := hrel
          have HA := Lib.hid hall
          clear hall
          by_cases hlt : k < p.rules.length
          · obtain ⟨b, off, rfl, hbl, hc⟩ := hcell (by omega)
            obtain ⟨vh, vb, vw, ⟨r0, r1, r2, r3, r4, r5⟩, hsl⟩ := hc k hlt
            have HR : Hid (fewAt (ixR p.rules k) = (decide ((ixR p.rules k).head.length ≤ 10) && decide ((ixR p.rules k).body.length ≤ 20) && decide ((ixR p.rules k).w.length ≤ 20))) := Lib.hid rfl
            have HB : Hid (fewAt (ixR p.rules k) = false → fewB p = false) := Lib.hid (fun h => by rw [HF.out]; exact allR_false k hlt h)
            have HG : Hid (fewAt (ixR p.rules k) = true → ∀ j, j < k + 1 → fewAt (ixR p.rules j) = true) := Lib.hid (fun h => lt_succ_all HA.out h)
            generalize ixR p.rules k = r at *
            obtain ⟨x1, y1, rfl, -, g1, -, -⟩ := hsl.head.form
            obtain ⟨x2, y2, rfl, -, g2, -, -⟩ := hsl.body.form
            obtain ⟨x3, y3, rfl, -, g3, -, -⟩ := hsl.wts.form
            have kk := bcell hb b
            have q0 := (kk _ hbl).trans r0
            have q1 := (kk _ hbl).trans r1
            have q2 := (kk _ hbl).trans r2
            have q3 := (kk _ hbl).trans r3
            have q4 := (kk _ hbl).trans r4
            have q5 := (kk _ hbl).trans r5
            clear kk r0 r1 r2 r3 r4 r5 hc hcell hsl
            by_cases e1 : r.head.length ≤ 10
            · by_cases e2 : r.body.length ≤ 20
              · by_cases e3 : r.w.length ≤ 20
                · have HN := Lib.hid (HG.out (by rw [HR.out]; simp [e1, e2, e3]))
                  go_wp2
                  first
                    | (go_roundw
                       case rel => (exact ⟨k + 1, by omega, by go_num, HN.out, bal hb _⟩)
                       case measure => (simp [intOf]; omega))
                    | (refine ⟨?_, ?_⟩
                       · (exact ⟨k + 1, by omega, by go_num, HN.out, bal hb _⟩)
                       · (simp [intOf]; omega))
                · have HN := Lib.hid (HB.out (by rw [HR.out]; simp [e3]))
                  go_wp2
                  go_ret
                  exact ⟨ret_bool HN.out.symm, bal hb _⟩
              · have HN := Lib.hid (HB.out (by rw [HR.out]; simp [e2]))
                go_wp2
                go_ret
                exact ⟨ret_bool HN.out.symm, bal hb _⟩
            · have HN := Lib.hid (HB.out (by rw [HR.out]; simp [e1]))
              go_wp2
              go_ret
              exact ⟨ret_bool HN.out.symm, bal hb _⟩
          · have HN : Hid (fewB p = true) := Lib.hid (by rw [HF.out]; exact allR_true (fun j hj => HA.out j (by omega)))
            go_wp2
            go_ret
            exact ⟨ret_bool HN.out.symm, hb⟩
      · have HF : Hid (fewB p = false) := Lib.hid (by simp [fewB, h3])
        go_enter Tryz.func5, Tryz.ntmps5
        go_wp2
        go_ret
        exact ⟨ret_bool HF.out.symm, hal⟩
    · have HF : Hid (fewB p = false) := Lib.hid (by simp [fewB, h2])
      go_enter Tryz.func5, Tryz.ntmps5
      go_wp2
      go_ret
      exact ⟨ret_bool HF.out.symm, hal⟩
  · have HF : Hid (fewB p = false) := Lib.hid (by simp [fewB, h1])
    go_enter Tryz.func5, Tryz.ntmps5
    go_wp2
    go_ret
    exact ⟨ret_bool HF.out.symm, hal⟩

end Go.Proofs.YtfhpfbakoiekpaaGreatDoor

/- loops: the small functions: slices.Contains, isSet, value, internal. -/
namespace Go.Proofs.YtfhpfbakoiekpaaGreatDoor
open Go.RowKit


theorem mem_ix {l : List Int} {x : Int} : x ∈ l ↔ ∃ k, k < l.length ∧ ix l k = x := by
  constructor
  · intro h
    obtain ⟨k, hk, e⟩ := List.mem_iff_getElem.1 h
    exact ⟨k, hk, by simp [ix, List.getD_eq_getElem?_getD, List.getElem?_eq_getElem hk, e]⟩
  · rintro ⟨k, hk, rfl⟩; exact ix_mem hk

set_option maxHeartbeats 1000000 in
theorem index_any (v : Value) (l : List Int) (x : Int) (w : World) (h : Ints w v l) :
    Calls Tryz.prog 76 #[v, .int .i64 x] w fun e w' => ∃ r, e = .returned (.int .i64 r) ∧ IxP l.length (fun j => decide (ix l j = x)) r ∧ w = w' := by
  obtain ⟨a1, c1, rfl, -, hl1, -, hcell⟩ := h.form
  clear h
  go_enter Tryz.func76, Tryz.ntmps76
  go_wp2
  go_loop [8] (fun i => ∃ k : Nat, k ≤ l.length ∧ i = .int .i64 k ∧ Hid (∀ j, j < k → decide (ix l j = x) = false)) (fun i => l.length - (intOf i).toNat)
  case atStart => exact ⟨0, by omega, rfl, Lib.hid (fun j hj => absurd hj (Nat.not_lt_zero _))⟩
  case round =>
    obtain ⟨k, hk, rfl, HA⟩ := hrel
    by_cases hlt : k < l.length
    · obtain ⟨b, off, rfl, hbl, hc⟩ := hcell (by omega)
      have hk1 := hc k hlt
      clear hc hcell
      by_cases g1 : ix l k = x
      · have HK : Hid (ix l k = x) := Lib.hid g1
        have g2 : (x == ix l k) = true := by simp [g1]
        clear g1
        go_wp2
        go_ret
        exact ⟨_, rfl, .inr ⟨k, hlt, rfl, decide_eq_true HK.out, HA.out⟩, rfl⟩
      · have HN := Lib.hid (lt_succ_all HA.out (decide_eq_false g1))
        have g2 : (x == ix l k) = false := by simp; exact fun e => g1 e.symm
        clear g1
        go_wp2
        first
          | (go_round
             case rel => (exact ⟨k + 1, by omega, by go_num, HN⟩)
             case measure => (simp [intOf]; omega))
          | (refine ⟨?_, ?_⟩
             · (exact ⟨k + 1, by omega, by go_num, HN⟩)
             · (simp [intOf]; omega))
    · have HN : Hid (∀ j, j < l.length → decide (ix l j = x) = false) := Lib.hid (fun j hj => HA.out j (by omega))
      go_wp2
      go_ret
      exact ⟨_, rfl, .inl ⟨rfl, HN.out⟩, rfl⟩

theorem anyR_mem (l : List Int) (x : Int) : anyR l.length (fun j => decide (ix l j = x)) = decide (x ∈ l) := by
  by_cases h : x ∈ l
  · obtain ⟨k, hk, e⟩ := mem_ix.1 h
    rw [decide_eq_true h, anyR_true k hk (decide_eq_true e)]
  · rw [decide_eq_false h, anyR_false (fun j hj => decide_eq_false (fun e => h (mem_ix.2 ⟨j, hj, e⟩)))]

theorem contains_any (v : Value) (l : List Int) (x : Int) (w : World) (h : Ints w v l) :
    Calls Tryz.prog 27 #[v, .int .i64 x] w fun e w' => e = .returned (.bool (decide (x ∈ l))) ∧ w = w' := by
  have HI := Lib.hid (index_any v l x w h)
  obtain ⟨a1, c1, rfl, -⟩ := h.form
  clear h
  go_enter Tryz.func27, Tryz.ntmps27
  go_wp2_with (go_at_call 76; refine (HI.out).mono ?_; rintro e w1 ⟨r, rfl, hr, rfl⟩; have HR := Lib.hid hr; clear hr)
  go_ret
  exact ⟨ret_bool (by rw [HR.out.any, anyR_mem]), rfl⟩

/-- A set of atoms: increasing, within 1 .. n. -/
def setTo (n : Int) (S : List Int) (k : Nat) : Bool := decide (1 ≤ ix S k ∧ ix S k ≤ n) && (k == 0 || decide (ix S (k - 1) < ix S k))
def setB' (n : Int) (S : List Int) : Bool := allR S.length (setTo n S) && decide (0 < S.length)

set_option maxHeartbeats 2000000 in
theorem isSet_any (v vs : Value) (p : GP) (S : List Int) (w : World) (h : ProgIs w v p) (hs : Ints w vs S) :
    Calls Tryz.prog 37 #[v, vs] w fun e w' => e = .returned (.bool (setB' p.n S)) ∧ Below w.heap.size w w' := by
  obtain ⟨vn, vsh, vr, vm, rfl, hn, -⟩ := h
  have hal := bal (Below.refl w.heap.size w) (.cells #[.int .i64 p.n, vn, vsh, vr, vm] 27)
  have hbk := Blk.new w [.int .i64 p.n, vn, vsh, vr, vm] 27
  obtain ⟨a1, c1, rfl, -, hl1, -, hcell⟩ := (hs.below hal).form
  clear hs
  unfold InI at hn
  go_enter Tryz.func37, Tryz.ntmps37
  go_upto_region 1 with fail
  have kx := hbk.cell 0
  clear hbk
  generalize w.alloc (.cells #[.int .i64 p.n, vn, vsh, vr, vm] 27) = W0 at *
  go_wp2
  go_loop [9] (fun i => ∃ k : Nat, k ≤ S.length ∧ i = .int .i64 k ∧ Hid (∀ j, j < k → setTo p.n S j = true)) (fun i => S.length - (intOf i).toNat)
  case atStart => exact ⟨0, by omega, rfl, Lib.hid (fun j hj => absurd hj (Nat.not_lt_zero _))⟩
  case round =>
    obtain ⟨k, hk, rfl, HA⟩ := hrel
    have HF : Hid (∀ k, k < S.length → setTo p.n S k = false → setB' p.n S = false) := Lib.hid (fun k hk h => by unfold setB'; rw [allR_false k hk h]; rfl)
    by_cases hlt : k < S.length
    · obtain ⟨b, off, rfl, hbl, hc⟩ := hcell (by omega)
      have hk1 := hc k hlt
      by_cases h1 : ix S k < 1
      · have HN : Hid (setTo p.n S k = false) := Lib.hid (by unfold setTo; rw [decide_eq_false (by omega)]; rfl)
        clear hc hcell
        go_wp2
        go_ret
        exact ⟨ret_bool (HF.out k hlt HN.out).symm, hal⟩
      · by_cases h2 : p.n < ix S k
        · have HN : Hid (setTo p.n S k = false) := Lib.hid (by unfold setTo; rw [decide_eq_false (by omega)]; rfl)
          clear hc hcell
          go_wp2
          go_ret
          exact ⟨ret_bool (HF.out k hlt HN.out).symm, hal⟩
        · cases k with
          | zero =>
            have hk0 : W0.cell? ⟨b, off, none⟩ = some (.int .i64 (ix S 0)) := hc 0 hlt
            clear hk1
            have HN := Lib.hid (lt_succ_all HA.out (show setTo p.n S 0 = true by unfold setTo; rw [decide_eq_true (by omega)]; rfl))
            clear hc hcell
            go_wp2
            first
              | (go_round
                 case rel => (exact ⟨0 + 1, by omega, by go_num, HN⟩)
                 case measure => (simp [intOf]; omega))
              | (refine ⟨?_, ?_⟩
                 · (exact ⟨0 + 1, by omega, by go_num, HN⟩)
                 · (simp [intOf]; omega))
          | succ k =>
            have hk0 := hc k (by omega)
            have e1 : (((k + 1 : Nat) : Int) - 1).toNat = k := by omega
            by_cases h3 : ix S k < ix S (k + 1)
            · have HN := Lib.hid (lt_succ_all HA.out (show setTo p.n S (k + 1) = true by unfold setTo; rw [decide_eq_true (by omega), Nat.add_sub_cancel, decide_eq_true h3]; simp))
              clear hc hcell
              go_wp2
              first
                | (go_round
                   case rel => (exact ⟨k + 1 + 1, by omega, by go_num, HN⟩)
                   case measure => (simp [intOf]; omega))
                | (refine ⟨?_, ?_⟩
                   · (exact ⟨k + 1 + 1, by omega, by go_num, HN⟩)
                   · (simp [intOf]; omega))
            · have HN : Hid (setTo p.n S (k + 1) = false) := Lib.hid (by unfold setTo; rw [Nat.add_sub_cancel, decide_eq_false h3]; simp)
              clear hc hcell
              go_wp2
              go_ret
              exact ⟨ret_bool (HF.out (k + 1) hlt HN.out).symm, hal⟩
    · have HN : Hid (setB' p.n S = decide (0 < S.length)) := Lib.hid (by unfold setB'; rw [allR_true (fun j hj => HA.out j (by omega)), Bool.true_and])
      go_wp2
      go_ret
      exact ⟨ret_bool HN.out.symm, hal⟩

set_option maxHeartbeats 1000000 in
theorem lvalue_off (va : Value) (a : List Int) (w : World) (h : Bytes8 w va a) (l : Int) (hl0 : l ≠ 0) (hl : -4611686018427387904 ≤ l ∧ l ≤ 4611686018427387904) (ho : offB a l = true) :
    Calls Tryz.prog 40 #[va, .int .i64 l] w fun e w' => e = .returned (.int .i64 (-1)) ∧ w = w' := by
  obtain ⟨⟨ad, cap, rfl, hcap, hmx, -, hc⟩, hb8⟩ := h
  have e8 : a.length < 9223372036854775808 := by unfold maxLen at hmx; omega
  obtain ⟨n, hn1, hln⟩ : ∃ n : Nat, 1 ≤ n ∧ (l = n ∨ l = -(n : Int)) := ⟨l.natAbs, by omega, by omega⟩
  have hneg : - -(n : Int) = n := by omega
  have h1 : n ≤ a.length := by
    unfold offB at ho
    simp only [Bool.and_eq_true, decide_eq_true_eq] at ho
    omega
  obtain ⟨b0, off0, rfl, hbl, hcc⟩ := hc (by omega)
  have hk : w.cell? ⟨b0, off0 + (n - 1), none⟩ = some (.int .i8 (ix a (n - 1))) := hcc (n - 1) (by omega)
  have hb := hb8 (n - 1)
  have HP := offB_pos a n hn1
  have HN := offB_neg a n
  clear hcc hc hb8
  generalize ix a (n - 1) = y at *
  rcases hln with rfl | rfl
  · rw [HP] at ho
    simp only [Bool.and_eq_true, decide_eq_true_eq] at ho
    have hy : y < 0 := by omega
    have hy0 : (y == 0) = false := by simp; omega
    have hyp : decide (0 < y) = false := decide_eq_false (by omega)
    have hnp : decide (0 < n) = true := decide_eq_true (by omega)
    clear HP HN ho
    go_enter Tryz.func40, Tryz.ntmps40
    go_wp2
    go_ret
    exact ⟨rfl, rfl⟩
  · rw [HN] at ho
    simp only [Bool.and_eq_true, decide_eq_true_eq] at ho
    have hy : 0 < y := by omega
    have hy0 : (y == 0) = false := by simp; omega
    have hyp : decide (0 < y) = true := decide_eq_true hy
    have hnp : decide ((n : Int) < 0) = false := decide_eq_false (by omega)
    clear HP HN ho
    go_enter Tryz.func40, Tryz.ntmps40
    go_wp2
    go_ret
    exact ⟨rfl, rfl⟩

set_option maxHeartbeats 1000000 in
theorem lvalue_on (va : Value) (a : List Int) (w : World) (h : Bytes8 w va a) (l : Int) (hl0 : l ≠ 0) (hl : -4611686018427387904 ≤ l ∧ l ≤ 4611686018427387904) (ho : offB a l = false) :
    Calls Tryz.prog 40 #[va, .int .i64 l] w fun e w' => ∃ v : Nat, v ≤ 1 ∧ e = .returned (.int .i64 v) ∧ w = w' := by
  obtain ⟨⟨ad, cap, rfl, hcap, hmx, -, hc⟩, hb8⟩ := h
  have e8 : a.length < 9223372036854775808 := by unfold maxLen at hmx; omega
  obtain ⟨n, hn1, hln⟩ : ∃ n : Nat, 1 ≤ n ∧ (l = n ∨ l = -(n : Int)) := ⟨l.natAbs, by omega, by omega⟩
  have hneg : - -(n : Int) = n := by omega
  by_cases h1 : n ≤ a.length
  · obtain ⟨b0, off0, rfl, hbl, hcc⟩ := hc (by omega)
    have hk : w.cell? ⟨b0, off0 + (n - 1), none⟩ = some (.int .i8 (ix a (n - 1))) := hcc (n - 1) (by omega)
    have hb := hb8 (n - 1)
    have HP := offB_pos a n hn1
    have HN := offB_neg a n
    clear hcc hc hb8
    generalize ix a (n - 1) = y at *
    by_cases y0 : y = 0
    · subst y0
      clear HP HN ho
      rcases hln with rfl | rfl
      · go_enter Tryz.func40, Tryz.ntmps40
        go_wp2
        go_ret
        exact ⟨0, Nat.zero_le _, rfl, rfl⟩
      · go_enter Tryz.func40, Tryz.ntmps40
        go_wp2
        go_ret
        exact ⟨0, Nat.zero_le _, rfl, rfl⟩
    · have hy0 : (y == 0) = false := by simp; omega
      rcases hln with rfl | rfl
      · rw [HP] at ho
        have hy : 0 < y := by
          refine Classical.byContradiction fun hn => ?_
          rw [decide_eq_true h1, decide_eq_true y0, decide_eq_true hn] at ho
          cases ho
        clear HP HN ho y0
        go_enter Tryz.func40, Tryz.ntmps40
        go_wp2
        go_ret
        exact ⟨1, Nat.le_refl _, rfl, rfl⟩
      · rw [HN] at ho
        have hy : y < 0 := by
          refine Classical.byContradiction fun hn => ?_
          have hy : 0 < y := by omega
          rw [decide_eq_true h1, decide_eq_true y0, decide_eq_true hy] at ho
          cases ho
        have hyp : decide (0 < y) = false := decide_eq_false (by omega)
        have hnn : decide ((n : Int) < 0) = false := decide_eq_false (by omega)
        clear HP HN ho y0
        go_enter Tryz.func40, Tryz.ntmps40
        go_wp2
        go_ret
        exact ⟨1, Nat.le_refl _, rfl, rfl⟩
  · clear ho
    rcases hln with rfl | rfl
    · go_enter Tryz.func40, Tryz.ntmps40
      go_wp2
      go_ret
      exact ⟨0, Nat.zero_le _, rfl, rfl⟩
    · go_enter Tryz.func40, Tryz.ntmps40
      go_wp2
      go_ret
      exact ⟨0, Nat.zero_le _, rfl, rfl⟩

end Go.Proofs.YtfhpfbakoiekpaaGreatDoor

/- reduct.member: a set of atoms as a map and a closure. -/
namespace Go.Proofs.YtfhpfbakoiekpaaGreatDoor
open Go.RowKit

/-- The map of a list's atoms under way. -/
def MemSt (W4 : World) (bm : Nat) (U : List Int) (k : Nat) (wx : World) : Prop :=
  ∃ G, MapIs (Value.int .i64) wx bm (mapI G) ∧ (∀ y, 0 ≤ G y ∧ G y ≤ k ∧ (0 < G y ↔ y ∈ U.take k)) ∧ Below W4.heap.size W4 wx

theorem take_ixM (U : List Int) (k : Nat) (hk : k < U.length) : U.take (k + 1) = U.take k ++ [ix U k] := by
  rw [List.take_succ_eq_append_getElem hk]
  simp [ix, List.getD_eq_getElem?_getD, List.getElem?_eq_getElem hk]

theorem MemSt.start (W4 : World) (U : List Int) : MemSt W4 W4.heap.size U 0 (W4.alloc (.map #[] 0)) := by
  refine ⟨fun _ => 0, ?_, fun y => by simp, bal (Below.refl _ _) _⟩
  have : mapI (fun _ => 0) = fun _ => none := by funext x; simp [mapI]
  rw [this]; exact MapIs.made W4

theorem MemSt.put {W4 wx w7 : World} {U : List Int} {k : Nat} {G : Int → Int} (hG : ∀ y, 0 ≤ G y ∧ G y ≤ k ∧ (0 < G y ↔ y ∈ U.take k)) (hb : Below W4.heap.size W4 wx) (hk : k < U.length)
    (hm : MapIs (Value.int .i64) w7 W4.heap.size (upd (mapI G) (ix U k) (some (.int .i64 (G (ix U k) + 1))))) (hg : wx.grownBy w7 (some W4.heap.size)) : MemSt W4 W4.heap.size U (k + 1) w7 := by
  have hx := hG (ix U k)
  have hsz := hb.size
  refine ⟨setI G (ix U k) (G (ix U k) + 1), by rw [mapI_set (by omega)]; exact hm, fun y => ?_, hb.trans ⟨hg.os, hg.tape, hg.output, hg.size, fun i hi => hg.block i (by omega) (fun e => by have := Option.some.inj e; omega)⟩⟩
  rw [take_ixM U k hk, List.mem_append, List.mem_singleton]
  by_cases e : y = ix U k
  · subst e
    have e2 : setI G (ix U k) (G (ix U k) + 1) (ix U k) = G (ix U k) + 1 := by simp [setI]
    rw [e2]
    exact ⟨by omega, by omega, ⟨fun _ => .inr rfl, fun _ => by omega⟩⟩
  · have e2 : setI G (ix U k) (G (ix U k) + 1) y = G y := by simp [setI, e]
    rw [e2]
    have := hG y
    exact ⟨this.1, by omega, ⟨fun h => .inl (this.2.2.1 h), fun h => this.2.2.2 (h.resolve_right e)⟩⟩

/-- The closure of member: its box holds a map that holds m's atoms. -/
def InM (w : World) (mb : Nat) (m : List Int) : Prop :=
  ∃ b G, Blk w mb [.map (some b)] 95 ∧ MapIs (Value.int .i64) w b (mapI G) ∧ ∀ y, 0 < G y ↔ y ∈ m

theorem InM.below {w w' : World} {mb : Nat} {m : List Int} (h : InM w mb m) (hb : Below w.heap.size w w') : InM w' mb m :=
  let ⟨b, G, h1, h2, h3⟩ := h; ⟨b, G, h1.below hb, h2.below hb, h3⟩
theorem InM.lt {w : World} {mb : Nat} {m : List Int} (h : InM w mb m) : mb < w.heap.size := let ⟨_, _, h1, _⟩ := h; h1.lt

end Go.Proofs.YtfhpfbakoiekpaaGreatDoor

/- The plain law of reduct.Rounds: a definite program's least closed set. -/
namespace Go.Proofs.YtfhpfbakoiekpaaGreatDoor
open Go.RowKit

/-- The weight of a literal in a body; what a body lacks at first; what a set of atoms pays. -/
def wOf (r : GR) (k : Nat) : Int := if r.sum then ix r.w k else 1
def need0 (r : GR) : Int := if r.sum then r.bound else r.body.length
def lhsTo (C : List Int) (r : GR) : Nat → Int
  | 0 => 0
  | k + 1 => lhsTo C r k + if ix r.body k ∈ C then wOf r k else 0
def lhs (C : List Int) (r : GR) : Int := lhsTo C r r.body.length
/-- The rules in whose bodies an atom is, with its weight. -/
def stepU (U : Int → List (Int × Int)) (r : GR) (i : Nat) : Nat → Int → List (Int × Int)
  | 0 => U
  | k + 1 => fun a => if a = ix r.body k then stepU U r i k a ++ [((i : Int), wOf r k)] else stepU U r i k a
def usesU (R : List GR) : Nat → Int → List (Int × Int)
  | 0 => fun _ => []
  | i + 1 => stepU (usesU R i) (ixR R i) i (ixR R i).body.length

/-- Definite rules over the atoms 1 .. n. -/
structure DefR (n : Int) (R : List GR) : Prop where
  rng : 0 ≤ n ∧ n ≤ 4000
  len : R.length ≤ 40000
  head : ∀ i, i < R.length → (ixR R i).head.length ≤ 1 ∧ ∀ x ∈ (ixR R i).head, 1 ≤ x ∧ x ≤ n
  body : ∀ i, i < R.length → (∀ k, k < (ixR R i).body.length → 1 ≤ ix (ixR R i).body k ∧ ix (ixR R i).body k ≤ n) ∧ (ixR R i).body.length ≤ 8002
  wts : ∀ i, i < R.length → (ixR R i).sum = true → (ixR R i).w.length = (ixR R i).body.length ∧ ∀ k, k < (ixR R i).w.length → 1 ≤ ix (ixR R i).w k ∧ ix (ixR R i).w k ≤ 1048576 - sumTo (ixR R i).w k
  bound : ∀ i, i < R.length → (ixR R i).sum = true → 0 ≤ (ixR R i).bound ∧ (ixR R i).bound ≤ 1048576

section
variable {n : Int} {R : List GR}

theorem DefR.w1 (h : DefR n R) {i : Nat} (hi : i < R.length) {k : Nat} (hk : k < (ixR R i).body.length) : 1 ≤ wOf (ixR R i) k ∧ wOf (ixR R i) k ≤ 1048576 ∧ ((ixR R i).sum = true → k < (ixR R i).w.length) := by
  unfold wOf
  cases hs : (ixR R i).sum with
  | false => simp
  | true =>
    obtain ⟨h1, h2⟩ := h.wts i hi hs
    have h3 := h2 k (by omega)
    have : ∀ m, m ≤ (ixR R i).w.length → 0 ≤ sumTo (ixR R i).w m := fun m => by
      induction m with
      | zero => intro _; simp [sumTo]
      | succ m ih => intro hm; have := ih (by omega); have := h2 m (by omega); unfold sumTo; omega
    have := this k (by omega)
    simp only [if_true]
    exact ⟨h3.1, by omega, fun _ => by omega⟩

theorem lhsTo_mono (h : DefR n R) {i : Nat} (hi : i < R.length) {C C' : List Int} (hc : ∀ x ∈ C, x ∈ C') : ∀ k, k ≤ (ixR R i).body.length → lhsTo C (ixR R i) k ≤ lhsTo C' (ixR R i) k
  | 0, _ => by simp [lhsTo]
  | k + 1, hk => by
    have ih := lhsTo_mono h hi hc k (by omega)
    have hw := (h.w1 hi (show k < _ by omega)).1
    unfold lhsTo
    by_cases h1 : ix (ixR R i).body k ∈ C
    · rw [if_pos h1, if_pos (hc _ h1)]; omega
    · rw [if_neg h1]; split <;> omega

theorem lhsTo_congr {C C' : List Int} (hc : ∀ x, x ∈ C ↔ x ∈ C') (r : GR) : ∀ k, lhsTo C r k = lhsTo C' r k
  | 0 => rfl
  | k + 1 => by unfold lhsTo; rw [lhsTo_congr hc r k]; simp only [hc]

/-- The sets that the rules leave as they are; what is in all of them. -/
def ClosedD (R : List GR) (T : List Int) : Prop := ∀ i, i < R.length → need0 (ixR R i) ≤ lhs T (ixR R i) → ∀ x ∈ (ixR R i).head, x ∈ T
def Der (R : List GR) (x : Int) : Prop := ∀ T, ClosedD R T → x ∈ T

/-- M is the least closed set. -/
structure IsLeast (R : List GR) (M : List Int) : Prop where
  closed : ClosedD R M
  least : ∀ x ∈ M, Der R x

theorem der_of (h : DefR n R) {C : List Int} (hC : ∀ x ∈ C, Der R x) {i : Nat} (hi : i < R.length) (hn : need0 (ixR R i) ≤ lhs C (ixR R i)) {x : Int} (hx : x ∈ (ixR R i).head) : Der R x := fun T hT =>
  hT i hi (Int.le_trans hn (lhsTo_mono h hi (fun y hy => hC y hy T hT) _ (Nat.le_refl _))) x hx

/-- Between two rounds. C: the atoms that have been paid; l: those that are new; od: the round of each atom; nd: what each rule lacks. -/
structure Lv (n : Int) (R : List GR) (C l od nd : List Int) : Prop where
  nodup : (C ++ l).Nodup
  range : ∀ x ∈ C ++ l, 1 ≤ x ∧ x ≤ n
  olen : (od.length : Int) = n
  nlen : nd.length = R.length
  out : ∀ x : Int, 1 ≤ x → x ≤ n → (0 < ix od (x - 1).toNat ↔ x ∈ C ++ l) ∧ 0 ≤ ix od (x - 1).toNat ∧ ix od (x - 1).toNat ≤ 4000000
  der : ∀ x ∈ C ++ l, Der R x

/-- The rules that have been asked. -/
def Asked (R : List GR) (A nd : List Int) (Todo : Nat → Prop) : Prop := ∀ i, i < R.length → ix nd i ≤ 0 → (∀ x ∈ (ixR R i).head, x ∈ A) ∨ Todo i
def Paid (R : List GR) (C nd : List Int) : Prop := ∀ i, i < R.length → ix nd i = need0 (ixR R i) - lhs C (ixR R i)

theorem ix_set (l : List Int) (i j : Nat) (v : Int) (hi : i < l.length) : ix (l.set i v) j = if j = i then v else ix l j := by
  unfold ix
  simp only [List.getD_eq_getElem?_getD]
  by_cases h : j = i
  · subst h; rw [if_pos rfl, List.getElem?_set_self hi]; rfl
  · rw [if_neg h, List.getElem?_set_ne (by omega)]

/-- reach: the head is taken. -/
theorem Lv.take {C l od nd : List Int} (hd : DefR n R) (h : Lv n R C l od nd) (hp : Paid R C nd) {i : Nat} (hi : i < R.length) (h0 : ix nd i ≤ 0) {x : Int} (hx : (ixR R i).head = [x]) (ho : ix od (x - 1).toNat = 0) {round : Int} (hr : 1 ≤ round ∧ round ≤ 4000000) :
    Lv n R C (l ++ [x]) (od.set (x - 1).toNat round) nd := by
  have hxr := (hd.head i hi).2 x (by rw [hx]; simp)
  have hxn : x ∉ C ++ l := fun hm => by have := (h.out x hxr.1 hxr.2).1.2 hm; omega
  have hol := h.olen
  have hlt : (x - 1).toNat < od.length := by omega
  refine ⟨by rw [← List.append_assoc]; exact List.nodup_append.2 ⟨h.nodup, by simp, fun a ha b hb => by simp only [List.mem_singleton] at hb; subst hb; rintro rfl; exact hxn ha⟩, fun y hy => ?_, by simpa using hol, h.nlen, fun y h1 h2 => ?_, fun y hy => ?_⟩
  · rw [← List.append_assoc] at hy
    rcases List.mem_append.1 hy with hy | hy
    · exact h.range y hy
    · simp only [List.mem_singleton] at hy; subst hy; exact hxr
  · rw [ix_set _ _ _ _ hlt, ← List.append_assoc]
    by_cases e : y = x
    · subst e; rw [if_pos rfl]; simp; omega
    · rw [if_neg (by omega)]
      have h3 := h.out y h1 h2
      refine ⟨h3.1.trans ?_, h3.2⟩
      simp [e]
  · rw [← List.append_assoc] at hy
    rcases List.mem_append.1 hy with hy | hy
    · exact h.der y hy
    · simp only [List.mem_singleton] at hy; subst hy
      exact der_of hd (fun z hz => h.der z (List.mem_append_left _ hz)) hi (by have := hp i hi; omega) (by rw [hx]; simp)

/-- The rules that the atoms of L, from place j on, still call for. -/
def Todo (R : List GR) (L : List Int) (j : Nat) (i : Nat) : Prop := ∃ j', j ≤ j' ∧ j' < L.length ∧ ∃ u ∈ usesU R R.length (ix L j'), u.1 = (i : Int)
def Todo2 (R : List GR) (L : List Int) (j q : Nat) (i : Nat) : Prop := (∃ q', q ≤ q' ∧ q' < (usesU R R.length (ix L j)).length ∧ ((usesU R R.length (ix L j)).getD q' (0, 0)).1 = (i : Int)) ∨ Todo R L (j + 1) i

theorem Todo.open {L : List Int} {j i : Nat} (h : Todo R L j i) : Todo2 R L j 0 i := by
  obtain ⟨j', h1, h2, u, hu, e⟩ := h
  by_cases hj : j' = j
  · subst hj
    obtain ⟨q, hq, e2⟩ := List.mem_iff_getElem.1 hu
    exact .inl ⟨q, by omega, hq, by rw [List.getD_eq_getElem?_getD, List.getElem?_eq_getElem hq]; simp [e2, e]⟩
  · exact .inr ⟨j', by omega, h2, u, hu, e⟩

theorem Todo.none {L : List Int} {i : Nat} (h : Todo R L L.length i) : False := by
  obtain ⟨j, h1, h2, _⟩ := h
  omega

/-- What is in the list of the rounds above 0. -/
def posL (od : List Int) : Nat → List Int
  | 0 => []
  | k + 1 => if 0 < ix od k then posL od k ++ [(k : Int) + 1] else posL od k

theorem posL_mem (od : List Int) (x : Int) : ∀ k, x ∈ posL od k ↔ 1 ≤ x ∧ x ≤ k ∧ 0 < ix od (x - 1).toNat
  | 0 => by simp [posL]; omega
  | k + 1 => by
    have ih := posL_mem od x k
    unfold posL
    split
    · rename_i h
      simp only [List.mem_append, List.mem_singleton, ih]
      constructor
      · rintro (h1 | h1)
        · exact ⟨h1.1, by omega, h1.2.2⟩
        · refine ⟨by omega, by omega, ?_⟩
          have : (x - 1).toNat = k := by omega
          rw [this]; exact h
      · rintro ⟨h1, h2, h3⟩
        by_cases e : x = (k : Int) + 1
        · exact .inr e
        · exact .inl ⟨h1, by omega, h3⟩
    · rename_i h
      rw [ih]
      constructor
      · rintro ⟨h1, h2, h3⟩; exact ⟨h1, by omega, h3⟩
      · rintro ⟨h1, h2, h3⟩
        refine ⟨h1, ?_, h3⟩
        by_cases e : x = (k : Int) + 1
        · have : (x - 1).toNat = k := by omega
          rw [this] at h3; exact absurd h3 h
        · omega

/-- The end. -/
theorem Lv.done {C od nd : List Int} (h : Lv n R C [] od nd) (hp : Paid R C nd) (ha : Asked R C nd (fun _ => False)) : IsLeast R (posL od n.toNat) := by
  have hC : ∀ x, x ∈ posL od n.toNat ↔ x ∈ C := fun x => by
    rw [posL_mem]
    constructor
    · rintro ⟨h1, h2, h3⟩
      have := ((h.out x h1 (by omega)).1).1 h3
      simpa using this
    · intro hx
      have hr := h.range x (by simpa using hx)
      exact ⟨hr.1, by omega, ((h.out x hr.1 hr.2).1).2 (by simpa using hx)⟩
  refine ⟨fun i hi hn x hx => ?_, fun x hx => h.der x (by simpa using (hC x).1 hx)⟩
  have e : lhs (posL od n.toNat) (ixR R i) = lhs C (ixR R i) := lhsTo_congr hC _ _
  rcases ha i hi (by have := hp i hi; omega) with h1 | h1
  · exact (hC x).2 (h1 x hx)
  · exact h1.elim

end

end Go.Proofs.YtfhpfbakoiekpaaGreatDoor

/- reduct: Set, body, Body, satisfied: contracts. -/
namespace Go.Proofs.YtfhpfbakoiekpaaGreatDoor
open Go.RowKit

/-- A set of atoms, the empty one too. -/
def setQ (n : Int) (S : List Int) : Bool := allR S.length (setTo n S)

/-! ### body -/
/-- A rule whose body can be evaluated. -/
structure BodyOk (r : GR) : Prop where
  len : r.body.length ≤ 8000
  lit : ∀ j, j < r.body.length → -9223372036854775808 < ix r.body j
  wlen : r.sum = true → r.w.length = r.body.length
  w : r.sum = true → ∀ j, j < r.w.length → 0 ≤ ix r.w j ∧ ix r.w j ≤ 1048576

/-! ### satisfied -/
end Go.Proofs.YtfhpfbakoiekpaaGreatDoor

/- reduct: satisfied, Broken, Models, Body: contracts. -/
namespace Go.Proofs.YtfhpfbakoiekpaaGreatDoor
open Go.RowKit

theorem lits_le2 {l : List Int} {n : Int} (h : orderedB l n = true) (hn : 0 ≤ n) : (l.length : Int) ≤ 2 * n := by
  have hp : (l.map litKey).Pairwise (· < ·) := by
    rw [List.pairwise_iff_getElem]
    intro i j hi hj hij
    simp only [List.length_map] at hi hj
    have := ordered_lt h j hj i hij
    simpa [ix, List.getD_eq_getElem?_getD, List.getElem?_eq_getElem hi, List.getElem?_eq_getElem hj] using this
  have := lt_length (l.map litKey) 2 (2 * n + 2) hp (fun x hx => by
    obtain ⟨y, hy, rfl⟩ := List.mem_map.1 hx
    have := ordered_lit h hy
    unfold litKey
    split <;> omega) (by omega)
  simp at this; omega

/-- A valid body. -/
structure BodyV (r : GR) (n : Int) : Prop where
  rng : 0 ≤ n ∧ n ≤ 4000
  ord : orderedB r.body n = true
  sum : r.sum = true → weightsB r.w r.body.length = true
  bound : 0 ≤ r.bound

theorem bodyV_valid {p : GP} (h : validE p = 0) {k : Nat} (hk : k < p.rules.length) : BodyV (ixR p.rules k) p.n :=
  let hv := validP h; ⟨hv.n, hv.body k hk, hv.sum k hk, hv.bound k hk⟩

theorem BodyV.ok {r : GR} {n : Int} (h : BodyV r n) : BodyOk r where
  len := by have := lits_le2 h.ord h.rng.1; have := h.rng; omega
  lit := fun j hj => by have := ordered_lit h.ord (ix_mem hj); have := h.rng; omega
  wlen := fun hs => by have := (weights_sum (h.sum hs)).1; omega
  w := fun hs j hj => by
    have h1 := weights_sum (h.sum hs)
    have h2 := h1.2.1 j hj
    have h3 := h1.2.2 (j + 1) (by omega)
    have h4 := h1.2.2 j (by omega)
    unfold sumTo at h3
    omega

theorem bodyOk_valid {p : GP} (h : validE p = 0) {k : Nat} (hk : k < p.rules.length) : BodyOk (ixR p.rules k) := (bodyV_valid h hk).ok

end Go.Proofs.YtfhpfbakoiekpaaGreatDoor
