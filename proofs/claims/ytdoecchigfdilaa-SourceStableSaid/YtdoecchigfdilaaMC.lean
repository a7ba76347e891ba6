/- My texts Plain2, Lose, Gain, Find, FindC, Source, Law24, Awake1, Awake2, Open, Plain3, Frame, Few, App, Mine, merged. -/
import Derived.Test.YtdoecchigfdilaaMB
import Derived.Deep.LoopGhost
import Derived.Test.YtdoecchigfdilaaMA
import Derived.WalkSpells
import Derived.ProofKit
import Derived.OpenShut
import Derived.ChangeArms
import Derived.SizedLaws
import Derived.Deep.AppendSrc

/- The plain law of the search: what lose and gain keep, and that what is founded in the end is the least closed set. -/
namespace Go.Proofs.Ytdoecchigfdilaa
open Go.RowKit

def InHead (p : GP) (i x : Int) : Prop := 0 ≤ i ∧ i < p.rules.length ∧ x ∈ (ixR p.rules i.toNat).head
def InBody (p : GP) (i x : Int) : Prop := 0 ≤ i ∧ i < p.rules.length ∧ x ∈ (ixR p.rules i.toNat).body
def avB (p : GP) (a : List Int) (F K : Int → Int) (i before : Int) : Bool := availB p a F K i.toNat before

/-- What a state of the sources is at all times. -/
def SInv (p : GP) (F K : Int → Int) (clock : Int) : Prop :=
  ∀ x, F x = 0 ∨ (0 < F x ∧ 1 ≤ x ∧ x ≤ p.n ∧ InHead p (F x - 1) x ∧ 1 ≤ K x ∧ K x ≤ clock)

theorem cntF_le (F : Int → Int) : ∀ n, cntF F n ≤ n
  | 0 => Nat.le_refl _
  | n + 1 => by have := cntF_le F n; unfold cntF; split <;> omega

theorem setI_eq (F : Int → Int) (x v : Int) : setI F x v x = v := by simp [setI]
theorem setI_ne (F : Int → Int) {x y : Int} (v : Int) (h : y ≠ x) : setI F x v y = F y := by simp [setI, h]

theorem cntF_set_out (F : Int → Int) (x v : Int) : ∀ n : Nat, (n : Int) < x → cntF (setI F x v) n = cntF F n
  | 0, _ => rfl
  | n + 1, h => by
    unfold cntF
    rw [cntF_set_out F x v n (by omega), setI_ne F v (by omega)]

theorem cntF_up (F : Int → Int) (x v : Int) (h0 : ¬ 0 < F x) (hv : 0 < v) : ∀ n : Nat, 1 ≤ x → x ≤ n → cntF (setI F x v) n = cntF F n + 1
  | 0, h1, h2 => by omega
  | n + 1, h1, h2 => by
    unfold cntF
    by_cases e : x = (n : Int) + 1
    · subst e
      rw [cntF_set_out F _ v n (by omega), setI_eq, if_pos hv, if_neg h0]
    · rw [cntF_up F x v h0 hv n h1 (by omega), setI_ne F v (fun e' => e e'.symm)]
      omega

theorem cntF_down (F : Int → Int) (x : Int) (h0 : 0 < F x) : ∀ n : Nat, 1 ≤ x → x ≤ n → cntF (setI F x 0) n + 1 = cntF F n
  | 0, h1, h2 => by omega
  | n + 1, h1, h2 => by
    unfold cntF
    by_cases e : x = (n : Int) + 1
    · subst e
      rw [cntF_set_out F _ 0 n (by omega), setI_eq, if_neg (by omega), if_pos h0]
    · have := cntF_down F x h0 n h1 (by omega)
      rw [setI_ne F 0 (fun e' => e e'.symm)]
      omega

section avail
variable {p : GP} {a : List Int} {F K F' K' : Int → Int}

theorem avSum_congr {r : GR} {b b' : Int} (h : ∀ l ∈ r.body, holdsB a F K b l = holdsB a F' K' b' l) : ∀ k, k ≤ r.body.length → avSum r a F K b k = avSum r a F' K' b' k
  | 0, _ => rfl
  | k + 1, hk => by
    unfold avSum
    rw [avSum_congr h k (by omega), h (ix r.body k) (by
      have e : ix r.body k = r.body[k] := by simp [ix, List.getD_eq_getElem?_getD, List.getElem?_eq_getElem (show k < r.body.length by omega)]
      rw [e]; exact List.getElem_mem (by omega))]

theorem avB_congr {i b b' : Int} (h : ∀ l ∈ (ixR p.rules i.toNat).body, holdsB a F K b l = holdsB a F' K' b' l) : avB p a F K i b = avB p a F' K' i b' := by
  unfold avB availB
  rw [avSum_congr h _ (Nat.le_refl _)]
  congr 2
  have e : ∀ k, k < (ixR p.rules i.toNat).body.length → holdsB a F K b (ix (ixR p.rules i.toNat).body k) = holdsB a F' K' b' (ix (ixR p.rules i.toNat).body k) := fun k hk => h _ (by
    have e : ix (ixR p.rules i.toNat).body k = (ixR p.rules i.toNat).body[k] := by simp [ix, List.getD_eq_getElem?_getD, List.getElem?_eq_getElem hk]
    rw [e]; exact List.getElem_mem hk)
  unfold allR
  rw [Bool.eq_iff_iff]
  simp only [List.all_eq_true, List.mem_range]
  constructor
  · intro h1 k hk; rw [← e k hk]; exact h1 k hk
  · intro h1 k hk; rw [e k hk]; exact h1 k hk

/-- An atom that is not in the body does not matter. -/
theorem avB_away {i b x u v : Int} (h : x ∉ (ixR p.rules i.toNat).body) : avB p a (setI F x u) (setI K x v) i b = avB p a F K i b :=
  avB_congr fun l hl => by
    have : l ≠ x := fun e => h (e ▸ hl)
    unfold holdsB
    rw [setI_ne F u this, setI_ne K v this]

/-- A new source at the time c does not matter to what was to be founded before. -/
theorem avB_new {i b x u c : Int} (h0 : ¬ 0 < F x) (hb : b ≤ c) : avB p a (setI F x u) (setI K x c) i b = avB p a F K i b :=
  avB_congr fun l hl => by
    unfold holdsB
    by_cases e : l = x
    · subst e
      rw [setI_eq, setI_eq]
      have h1 : decide (c < b) = false := decide_eq_false (by omega)
      have h2 : decide (0 < F l) = false := decide_eq_false h0
      rw [h1, h2]; simp
    · rw [setI_ne F u e, setI_ne K c e]

theorem avB_time {i b b' clock : Int} (h : SInv p F K clock) (hb : clock < b) (hb' : clock < b') : avB p a F K i b = avB p a F K i b' :=
  avB_congr fun l hl => by
    unfold holdsB
    rcases h l with h1 | h1
    · rw [h1]; simp
    · have h2 : decide (K l < b) = true := decide_eq_true (by omega)
      have h3 : decide (K l < b') = true := decide_eq_true (by omega)
      rw [h2, h3]

end avail

/-- lose, under way: 'X' the first atom that has not been asked, R what still is to be asked. -/
structure LI (p : GP) (a : List Int) (F K : Int → Int) (clock : Int) (l : List Int) (X : Int) (R : Int → Int → Prop) : Prop where
  inv : SInv p F K clock
  off : ∀ z, 0 < F z → z < X → offB a z = false
  ok : ∀ z, 0 < F z → avB p a F K (F z - 1) (K z) = true ∨ (∃ y ∈ l, InBody p (F z - 1) y) ∨ R z (F z - 1)
  q : ∀ y ∈ l, 1 ≤ y ∧ y ≤ p.n
  cnt : (cntF F p.n.toNat + l.length : Int) ≤ p.n

section lose
variable {p : GP} {a l : List Int} {F K : Int → Int} {clock X X' : Int} {R R' : Int → Int → Prop}

theorem LI.start (h : SInv p F K clock) (hn : 0 ≤ p.n) : LI p a F K clock [] 1 (fun z _ => 1 ≤ z) := by
  refine ⟨h, fun z hz hx => ?_, fun z hz => .inr (.inr ?_), fun y hy => by simp at hy, ?_⟩
  · rcases h z with h1 | h1 <;> omega
  · rcases h z with h1 | h1 <;> omega
  · have := cntF_le F p.n.toNat; simp; omega

theorem LI.drop (h : LI p a F K clock l X R) (x : Int) (hx : 0 < F x) (hX : ∀ z, z < X' → z ≠ x → z < X) (hR : ∀ z i, z ≠ x → R z i → R' z i) : LI p a (setI F x 0) (setI K x 0) clock (l ++ [x]) X' R' := by
  have hi := h.inv x
  refine ⟨fun z => ?_, fun z hz hzx => ?_, fun z hz => ?_, fun y hy => ?_, ?_⟩
  · by_cases e : z = x
    · subst e; left; rw [setI_eq]
    · rw [setI_ne F 0 e, setI_ne K 0 e]; exact h.inv z
  · have e : z ≠ x := fun e => by subst e; rw [setI_eq] at hz; omega
    rw [setI_ne F 0 e] at hz
    exact h.off z hz (hX z hzx e)
  · have e : z ≠ x := fun e => by subst e; rw [setI_eq] at hz; omega
    rw [setI_ne F 0 e] at hz ⊢
    rw [setI_ne K 0 e]
    by_cases hb : x ∈ (ixR p.rules (F z - 1).toNat).body
    · right; left
      refine ⟨x, by simp, ?_⟩
      rcases h.inv z with h1 | h1
      · omega
      · have := h1.2.2.2.1; exact ⟨this.1, this.2.1, hb⟩
    · rw [avB_away hb]
      rcases h.ok z hz with h1 | ⟨y, h1, h2⟩ | h1
      · exact .inl h1
      · exact .inr (.inl ⟨y, by simp [h1], h2⟩)
      · exact .inr (.inr (hR z _ e h1))
  · simp only [List.mem_append, List.mem_singleton] at hy
    rcases hy with hy | rfl
    · exact h.q y hy
    · omega
  · have h2 := h.cnt
    have h3 := cntF_down F x hx p.n.toNat (by omega) (by omega)
    simp only [List.length_append, List.length_singleton]
    push_cast
    omega

theorem LI.keep (h : LI p a F K clock l X R) (hX : ∀ z, 0 < F z → z < X' → z < X ∨ offB a z = false) (hR : ∀ z, 0 < F z → R z (F z - 1) → avB p a F K (F z - 1) (K z) = true ∨ R' z (F z - 1)) : LI p a F K clock l X' R' := by
  refine ⟨h.inv, fun z hz hzx => ?_, fun z hz => ?_, h.q, h.cnt⟩
  · rcases hX z hz hzx with h1 | h1
    · exact h.off z hz h1
    · exact h1
  · rcases h.ok z hz with h1 | h1 | h1
    · exact .inl h1
    · exact .inr (.inl h1)
    · rcases hR z hz h1 with h2 | h2
      · exact .inl h2
      · exact .inr (.inr h2)

theorem LI.pop {y : Int} (h : LI p a F K clock (y :: l) X R) (hR : ∀ z i, R z i → R' z i) (hy : ∀ z i, InHead p i z → InBody p i y → R' z i) : LI p a F K clock l X R' := by
  refine ⟨h.inv, h.off, fun z hz => ?_, fun y' hy' => h.q y' (.tail _ hy'), ?_⟩
  · rcases h.ok z hz with h1 | ⟨y', h1, h2⟩ | h1
    · exact .inl h1
    · rcases List.mem_cons.1 h1 with rfl | h3
      · refine .inr (.inr (hy z _ ?_ h2))
        rcases h.inv z with h4 | h4
        · omega
        · exact h4.2.2.2.1
      · exact .inr (.inl ⟨y', h3, h2⟩)
    · exact .inr (.inr (hR _ _ h1))
  · have := h.cnt
    simp only [List.length_cons] at this
    push_cast at this
    omega

end lose

/-- What lose leaves. -/
structure Lost (p : GP) (a : List Int) (F K : Int → Int) (clock : Int) : Prop where
  inv : SInv p F K clock
  off : ∀ z, 0 < F z → offB a z = false
  ok : ∀ z, 0 < F z → avB p a F K (F z - 1) (K z) = true

theorem LI.done {p : GP} {a : List Int} {F K : Int → Int} {clock X : Int} {R : Int → Int → Prop} (h : LI p a F K clock [] X R) (hX : p.n < X) (hR : ∀ z i, ¬ R z i) : Lost p a F K clock := by
  refine ⟨h.inv, fun z hz => h.off z hz ?_, fun z hz => ?_⟩
  · rcases h.inv z with h1 | h1 <;> omega
  · rcases h.ok z hz with h1 | ⟨y, h1, h2⟩ | h1
    · exact h1
    · simp at h1
    · exact absurd h1 (hR _ _)

/-- gain, under way. -/
structure GI (p : GP) (a : List Int) (F K : Int → Int) (clock C0 : Int) (l : List Int) (R : Int → Int → Prop) : Prop where
  lost : Lost p a F K clock
  cmp : ∀ z i, 1 ≤ z → z ≤ p.n → ¬ 0 < F z → offB a z = false → InHead p i z → avB p a F K i (clock + 1) = false ∨ (∃ y ∈ l, InBody p i y) ∨ R z i
  q : ∀ y ∈ l, 1 ≤ y ∧ y ≤ p.n
  cnt : l.length ≤ cntF F p.n.toNat
  clk : clock ≤ C0 + cntF F p.n.toNat

section gain
variable {p : GP} {a l : List Int} {F K : Int → Int} {clock C0 : Int} {R R' : Int → Int → Prop}

theorem GI.start (h : Lost p a F K clock) : GI p a F K clock clock [] (fun z _ => 1 ≤ z) :=
  ⟨h, fun z i h1 h2 h3 h4 h5 => .inr (.inr h1), fun y hy => by simp at hy, by simp, by omega⟩

theorem GI.push (h : GI p a F K clock C0 l R) (hc : 0 ≤ clock) (x i : Int) (h0 : ¬ 0 < F x) (hx : 1 ≤ x ∧ x ≤ p.n) (ho : offB a x = false) (hi : InHead p i x) (hav : avB p a F K i (clock + 1) = true) (hR : ∀ z j, z ≠ x → R z j → R' z j) :
    GI p a (setI F x (i + 1)) (setI K x (clock + 1)) (clock + 1) C0 (l ++ [x]) R' := by
  have hinv : SInv p (setI F x (i + 1)) (setI K x (clock + 1)) (clock + 1) := fun z => by
    by_cases e : z = x
    · subst e
      rw [setI_eq, setI_eq]
      have := hi.1
      exact .inr ⟨by omega, hx.1, hx.2, by rwa [show i + 1 - 1 = i by omega], by omega, by omega⟩
    · rw [setI_ne F _ e, setI_ne K _ e]
      rcases h.lost.inv z with h1 | h1
      · exact .inl h1
      · exact .inr ⟨h1.1, h1.2.1, h1.2.2.1, h1.2.2.2.1, h1.2.2.2.2.1, by omega⟩
  have hup := cntF_up F x (i + 1) h0 (by have := hi.1; omega) p.n.toNat hx.1 (by omega)
  refine ⟨⟨hinv, fun z hz => ?_, fun z hz => ?_⟩, fun z j h1 h2 h3 h4 h5 => ?_, fun y hy => ?_, ?_, ?_⟩
  · by_cases e : z = x
    · subst e; exact ho
    · rw [setI_ne F _ e] at hz; exact h.lost.off z hz
  · by_cases e : z = x
    · subst e
      rw [setI_eq, setI_eq, avB_new h0 (by omega), show i + 1 - 1 = i by omega]
      exact hav
    · rw [setI_ne F _ e] at hz ⊢
      rw [setI_ne K _ e]
      rcases h.lost.inv z with h1 | h1
      · omega
      · rw [avB_new h0 (by omega)]
        exact h.lost.ok z hz
  · have e : z ≠ x := fun e => by subst e; rw [setI_eq] at h3; have := hi.1; omega
    rw [setI_ne F _ e] at h3
    by_cases hb : x ∈ (ixR p.rules j.toNat).body
    · exact .inr (.inl ⟨x, by simp, h5.1, h5.2.1, hb⟩)
    · rw [avB_away hb, avB_time (b' := clock + 1) h.lost.inv (by omega) (by omega)]
      rcases h.cmp z j h1 h2 h3 h4 h5 with h6 | ⟨y, h6, h7⟩ | h6
      · exact .inl h6
      · exact .inr (.inl ⟨y, by simp [h6], h7⟩)
      · exact .inr (.inr (hR z j e h6))
  · simp only [List.mem_append, List.mem_singleton] at hy
    rcases hy with hy | rfl
    · exact h.q y hy
    · exact hx
  · have := h.cnt
    simp only [List.length_append, List.length_singleton]
    omega
  · have := h.clk
    rw [hup]; push_cast; omega

theorem GI.keep (h : GI p a F K clock C0 l R) (hR : ∀ z i, 1 ≤ z → z ≤ p.n → ¬ 0 < F z → offB a z = false → InHead p i z → R z i → avB p a F K i (clock + 1) = false ∨ R' z i) : GI p a F K clock C0 l R' := by
  refine ⟨h.lost, fun z i h1 h2 h3 h4 h5 => ?_, h.q, h.cnt, h.clk⟩
  rcases h.cmp z i h1 h2 h3 h4 h5 with h6 | h6 | h6
  · exact .inl h6
  · exact .inr (.inl h6)
  · rcases hR z i h1 h2 h3 h4 h5 h6 with h7 | h7
    · exact .inl h7
    · exact .inr (.inr h7)

theorem GI.pop {y : Int} (h : GI p a F K clock C0 (y :: l) R) (hR : ∀ z i, R z i → R' z i) (hy : ∀ z i, InHead p i z → InBody p i y → R' z i) : GI p a F K clock C0 l R' := by
  refine ⟨h.lost, fun z i h1 h2 h3 h4 h5 => ?_, fun y' hy' => h.q y' (.tail _ hy'), by have := h.cnt; simp only [List.length_cons] at this; omega, h.clk⟩
  rcases h.cmp z i h1 h2 h3 h4 h5 with h6 | ⟨y', h6, h7⟩ | h6
  · exact .inl h6
  · rcases List.mem_cons.1 h6 with rfl | h8
    · exact .inr (.inr (hy z i h5 h7))
    · exact .inr (.inl ⟨y', h8, h7⟩)
  · exact .inr (.inr (hR _ _ h6))

end gain

/-- What gain leaves. -/
structure Found (p : GP) (a : List Int) (F K : Int → Int) (clock : Int) : Prop where
  lost : Lost p a F K clock
  cmp : ∀ z i, 1 ≤ z → z ≤ p.n → ¬ 0 < F z → offB a z = false → InHead p i z → avB p a F K i (clock + 1) = false

theorem GI.done {p : GP} {a : List Int} {F K : Int → Int} {clock C0 : Int} {R : Int → Int → Prop} (h : GI p a F K clock C0 [] R) (hR : ∀ z i, ¬ R z i) : Found p a F K clock ∧ clock ≤ C0 + cntF F p.n.toNat := by
  refine ⟨⟨h.lost, fun z i h1 h2 h3 h4 h5 => ?_⟩, h.clk⟩
  rcases h.cmp z i h1 h2 h3 h4 h5 with h6 | ⟨y, h6, h7⟩ | h6
  · exact h6
  · simp at h6
  · exact absurd h6 (hR _ _)

/-! ### What still is to be asked, in the two inner loops -/
def R3 (row : List Int) (k : Nat) (_ i : Int) : Prop := ∃ j, k ≤ j ∧ j < row.length ∧ i = ix row j
def R4 (row head : List Int) (k m : Nat) (z i : Int) : Prop := (i = ix row k ∧ ∃ j, m ≤ j ∧ j < head.length ∧ z = ix head j) ∨ ∃ j, k < j ∧ j < row.length ∧ i = ix row j

theorem ix_of_mem {l : List Int} {x : Int} (h : x ∈ l) : ∃ j, j < l.length ∧ x = ix l j := by
  obtain ⟨j, hj, e⟩ := List.mem_iff_getElem.1 h
  exact ⟨j, hj, by simp [ix, List.getD_eq_getElem?_getD, List.getElem?_eq_getElem hj, e]⟩
theorem R4.start {row head : List Int} {k : Nat} {z i : Int} (h : R3 row k z i) (hz : i = ix row k → z ∈ head) : R4 row head k 0 z i := by
  obtain ⟨j, h1, h2, h3⟩ := h
  rcases Nat.eq_or_lt_of_le h1 with rfl | h4
  · obtain ⟨m, h5, h6⟩ := ix_of_mem (hz h3)
    exact .inl ⟨h3, m, Nat.zero_le _, h5, h6⟩
  · exact .inr ⟨j, h4, h2, h3⟩
theorem R4.next {row head : List Int} {k m : Nat} {z i : Int} (h : R4 row head k m z i) : (z = ix head m ∧ i = ix row k) ∨ R4 row head k (m + 1) z i := by
  rcases h with ⟨h1, j, h2, h3, h4⟩ | h1
  · rcases Nat.eq_or_lt_of_le h2 with rfl | h5
    · exact .inl ⟨h4, h1⟩
    · exact .inr (.inl ⟨h1, j, h5, h3, h4⟩)
  · exact .inr (.inr h1)
theorem R4.done {row head : List Int} {k : Nat} {z i : Int} (h : R4 row head k head.length z i) : R3 row (k + 1) z i := by
  rcases h with ⟨h1, j, h2, h3, h4⟩ | ⟨j, h1, h2, h3⟩
  · omega
  · exact ⟨j, h1, h2, h3⟩
theorem R3.done {row : List Int} {z i : Int} : ¬ R3 row row.length z i := by
  rintro ⟨j, h1, h2, h3⟩; omega
theorem R3.start {p : GP} {R : Int → List Int} (h : RowsAt (fun x => decide (0 < x)) (fun i => (ixR p.rules i).body) p.rules.length 0 R) {y z i : Int} (hy : 1 ≤ y) (hb : InBody p i y) : R3 (R y) 0 z i := by
  have hm : i ∈ R y := ((h y).2 i).2 ⟨decide_eq_true (by omega), .inl hb⟩
  obtain ⟨j, h1, h2⟩ := ix_of_mem hm
  exact ⟨j, Nat.zero_le _, h1, h2⟩
theorem rowU_at {p : GP} {R : Int → List Int} (h : RowsAt (fun x => decide (0 < x)) (fun i => (ixR p.rules i).body) p.rules.length 0 R) {y : Int} {k : Nat} (hk : k < (R y).length) : ∃ i : Nat, ix (R y) k = i ∧ i < p.rules.length := by
  have := ((h y).2 _).1 (ix_mem hk)
  simp only [List.take_zero, List.not_mem_nil, and_false, or_false] at this
  exact ⟨(ix (R y) k).toNat, by omega, by omega⟩

end Go.Proofs.Ytdoecchigfdilaa

/- lose. -/
namespace Go.Proofs.Ytdoecchigfdilaa
open Go.RowKit


theorem run_slice1 (g off n cap : Nat) (hn : n + 1 ≤ cap) (w : World) :
    (Instr.slice 23 (.slice (some ⟨g, off, none⟩) (n + 1) cap) (some (.int .i64 1)) none none).run Try.prog w = .ok (.slice (if cap = 1 then some ⟨g, off, none⟩ else some ⟨g, off + 1, none⟩) n (cap - 1)) w := by
  have ht : Try.prog.underlying 23 = some (.slice (Try.prog.elem 23)) := by kernel_rfl
  rw [run_slice_l w 23 (some ⟨g, off, none⟩) (n + 1) cap ht .i64 1 (by omega) (by omega)]
  have hs : (sizeOf (Try.prog.elem 23)).run Try.prog w = .ok 1 w := by kernel_rfl
  rw [hs]
  show Result.ok (sliced _ 1 (n + 1) cap 1) w = _
  unfold sliced
  by_cases h : cap = 1
  · subst h; simp
  · simp [h, Addr.add]

/-- The queue's head is there to be taken. -/
theorem QS.pop {base c1 q : Nat} {s : SP} {p : GP} {F K : Int → Int} {clock : Int} {a : List Int} {y : Int} {l : List Int} {w : World} (h : QS base c1 q s p F K clock a (y :: l) w) :
    ∃ g off cap av, Blk w q [.slice (some ⟨g, off, none⟩) (l.length + 1) cap] 23 ∧ w.cell? ⟨g, off, none⟩ = some (.int .i64 y) ∧ l.length + 1 ≤ cap ∧ cap ≤ maxLen ∧ InI y ∧
      (∀ w' : World, (Instr.slice 23 (.slice (some ⟨g, off, none⟩) (l.length + 1) cap) (some (.int .i64 1)) none none).run Try.prog w' = .ok (.slice av l.length (cap - 1)) w') ∧
      QS base c1 q s p F K clock a l (w.setCell ⟨q, 0, none⟩ (.slice av l.length (cap - 1))) := by
  obtain ⟨vq, hq, hr⟩ := h.queue
  have hne := hr.far hq (by decide)
  have hcq : c1 ≠ q := by
    rintro rfl
    have hb := h.box
    unfold Blk at hb hq
    rw [hb] at hq
    have := Option.some.inj hq
    injection this with _ h2 _
    revert h2; decide
  have h0 := hr
  rcases hr.2 with ⟨_, e⟩ | ⟨g, off, cap, cur, rfl, hb, hg, h1, h2, h3, h4⟩
  · cases e
  · have h1' : l.length + 1 ≤ cap := by simpa using h1
    refine ⟨g, off, cap, _, hq, ?_, h1', h2, by have := h0.1 0; simpa [ix, InI] using this, fun w' => run_slice1 g off l.length cap h1' w', ?_⟩
    · have := h4 0 (by simp)
      rw [Nat.add_zero] at this
      rw [cell_of_row w g off cur 3 (0, 0) hg, this]; simp [ix]
    · have hlow := h.lo
      have ht := h.src.top
      have hgq : g ≠ q := fun e => hne (by simp [Value.ownBlock, e])
      have hkeep : ∀ v i, i < base → (w.setCell ⟨q, 0, none⟩ v).heap[i]? = w.heap[i]? := fun v i hi => Below.heap_setCell _ _ _ _ (show i ≠ q by omega)
      have hQ : QRow base w (.slice (if cap = 1 then some ⟨g, off, none⟩ else some ⟨g, off + 1, none⟩) l.length (cap - 1)) l := by
        split
        · rename_i e
          obtain rfl : l = [] := by cases l with
            | nil => rfl
            | cons x l => simp at h1'; omega
          exact ⟨fun i => by simp [ix], .inr ⟨g, off, cap - 1, cur, rfl, hb, hg, by simp, by omega, by omega, fun i hi => by simp at hi⟩⟩
        · have := h0.tail
          simpa using this
      exact ⟨h.src.keep (by simp [World.setCell]) (fun i hi => hkeep _ i hi), h.box.setOther _ _ hcq, ⟨_, hq.set 0 _, hQ.kept (fun i _ _ hi => Below.heap_setCell _ _ _ _ (fun e => by
        subst e; split at hi <;> simp [Value.ownBlock] at hi <;> exact hgq hi))⟩, h.lo⟩

/-- lose, under way, in memory. -/
def LSt (base c1 q : Nat) (s : SP) (p : GP) (clock : Int) (a : List Int) (w0 : World) (X : Int) (R : Int → Int → Prop) (n : Nat) (wx : World) : Prop :=
  ∃ F K l, QS base c1 q s p F K clock a l wx ∧ LI p a F K clock l X R ∧ Lim base s.mut w0 wx ∧ cntF F p.n.toNat + l.length ≤ n

def LR1 (base c1 q : Nat) (s : SP) (p : GP) (clock : Int) (a : List Int) (w0 : World) (i : Value) (wx : World) : Prop :=
  ∃ x : Int, 1 ≤ x ∧ x ≤ p.n + 1 ∧ i = .int .i64 x ∧ LSt base c1 q s p clock a w0 x (fun z _ => x ≤ z) p.n.toNat wx

def LR3 (base c1 q : Nat) (s : SP) (p : GP) (clock : Int) (a : List Int) (w0 : World) (row : List Int) (N : Nat) (i : Value) (wx : World) : Prop :=
  ∃ k : Nat, k ≤ row.length ∧ i = .int .i64 k ∧ LSt base c1 q s p clock a w0 (p.n + 1) (R3 row k) N wx

def LR4 (base c1 q : Nat) (s : SP) (p : GP) (clock : Int) (a : List Int) (w0 : World) (row head : List Int) (k N : Nat) (i : Value) (wx : World) : Prop :=
  ∃ m : Nat, m ≤ head.length ∧ i = .int .i64 m ∧ LSt base c1 q s p clock a w0 (p.n + 1) (R4 row head k m) N wx

def LosePost (s : SP) (p : GP) (a : List Int) (clock : Int) (w w' : World) : Prop :=
  Lim w.heap.size s.mut w w' ∧ ∃ F' K', Lost p a F' K' clock ∧ Src w.heap.size s p F' K' clock a w'

section
variable {m : Nat} {s : SP} {p : GP} {F K : Int → Int} {clock : Int} {a : List Int} {w : World}

theorem LSt.start (h : Src m s p F K clock a w) (hi : SInv p F K clock) : ∀ w', w' = (w.alloc (.cells #[.pointer (some ⟨s.b, 0, none⟩)] 33)).alloc (.cells #[nilS] 23) →
    LR1 w.heap.size w.heap.size (w.heap.size + 1) s p clock a w (.int .i64 1) w' := by
  rintro w' rfl
  have hv := validP h.valid
  have hvn := hv.n
  have h1 := LI.start (p := p) (a := a) hi hvn.1
  have ht := h.top
  have hb : Below w.heap.size w ((w.alloc (.cells #[.pointer (some ⟨s.b, 0, none⟩)] 33)).alloc (.cells #[nilS] 23)) := bal (bal (Below.refl _ _) _) _
  refine ⟨1, by omega, by omega, rfl, F, K, [], ⟨(h.mono ht.2 (Nat.le_refl _)).below hb, (Blk.new w _ _).alloc _, ⟨nilS, Blk.new2 w _ _ _, QRow.nil _ _⟩, ⟨Nat.le_refl _, by omega⟩⟩, h1, .of_below hb (Nat.le_refl _), ?_⟩
  have := h1.cnt
  omega

theorem LI.cntDrop {l : List Int} {X : Int} {R : Int → Int → Prop} {N : Nat} (h : LI p a F K clock l X R) (hc : cntF F p.n.toNat + l.length ≤ N) (x : Int) (hx : 0 < F x) : cntF (setI F x 0) p.n.toNat + (l ++ [x]).length ≤ N := by
  have hi := h.inv x
  have h3 := cntF_down F x hx p.n.toNat (by omega) (by omega)
  simp only [List.length_append, List.length_singleton]
  omega

/-- x has been dropped. -/
theorem LSt.dropped {base c1 q N : Nat} {l : List Int} {X X' x : Int} {R R' : Int → Int → Prop} {w0 w1 w2 : World} (h : LI p a F K clock l X R) (hc : cntF F p.n.toNat + l.length ≤ N) (hl : Lim base s.mut w0 w1)
    (hx : 0 < F x) (h1 : Lim base s.mut w1 w2) (h2 : if 0 < F x then QS base c1 q s p (setI F x 0) (setI K x 0) clock a (l ++ [x]) w2 else w2 = w1) (hX : ∀ z, z < X' → z ≠ x → z < X) (hR : ∀ z i, z ≠ x → R z i → R' z i) : LSt base c1 q s p clock a w0 X' R' N w2 := by
  rw [if_pos hx] at h2
  exact ⟨_, _, _, h2, h.drop x hx hX hR, hl.trans h1, h.cntDrop hc x hx⟩

set_option maxHeartbeats 4000000 in
set_option maxRecDepth 100000 in
theorem lose_any (h : Src m s p F K clock a w) (hi : SInv p F K clock) :
    Calls Try.prog 26 #[.pointer (some ⟨s.b, 0, none⟩)] w fun e w' => e = .returned (.tuple #[]) ∧ LosePost s p a clock w w' := by
  have HST := Lib.hid (LSt.start h hi)
  have hv := validP h.valid
  have hvn := hv.n
  have hvr := hv.rules
  clear h hi hv
  go_enter Try.func26, Try.ntmps26
  go_wp2
  go_loopw [4] (fun i wx => LR1 w.heap.size w.heap.size (w.heap.size + 1) s p clock a w i wx) (fun i _ => (p.n + 1 - intOf i).toNat)
  case atStart => exact HST.out _ rfl
  case round =>
    obtain ⟨x, hx1, hx2, rfl, F', K', l, hqs, hli, hlim, hcnt⟩ := hrel
    have HQ := Lib.hid hqs
    have HLI := Lib.hid hli
    have HLM := Lib.hid hlim
    have HCN := Lib.hid hcnt
    have hbox := hqs.box.lt
    have ht := hqs.src.top
    obtain ⟨va, hob, -⟩ := hqs.src.obj
    have zb := hob.lt
    have kb : ∀ e : Ext wr, ∀ o, e.world.cell? ⟨w.heap.size, o, none⟩ = [Value.pointer (some ⟨s.b, 0, none⟩)][o]? := fun e o => (bcell e.below _ o hbox).trans (HQ.out.box.cell o)
    have ko : ∀ e : Ext wr, ∀ o, e.world.cell? ⟨s.b, o, none⟩ = [Value.int .i64 p.n, s.vn, nilS, s.vr, nilS, .map (some s.bh), .map (some s.bu), .map (some s.bf), .map (some s.bk), .int .i64 clock, va][o]? := fun e o => (bcell e.below _ o zb).trans (hob.cell o)
    have kb0 := HQ.out.box.cell
    have ko0 := hob.cell
    have HS : Hid (∀ e : Ext wr, Src w.heap.size s p F' K' clock a e.world) := Lib.hid (fun e => HQ.out.src.below e.below)
    clear hqs hli hlim hcnt hob
    by_cases hlt : x ≤ p.n
    · by_cases hF : 0 < F' x
      · have hinv := HLI.out.inv x
        obtain ⟨i, hi, hil⟩ : ∃ i : Nat, F' x = i + 1 ∧ i < p.rules.length := ⟨(F' x - 1).toNat, by omega, by have := hinv.resolve_left (by omega); have := this.2.2.2.1.2.1; omega⟩
        have HI := Lib.hid hi
        have hi4 : i ≤ 40000 := by omega
        have kF : ∀ e : Ext wr, (Instr.lookup 38 (.map (some s.bf)) (.int .i64 x) false).run Try.prog e.world = .ok (.int .i64 ((i : Int) + 1)) e.world := fun e => by rw [← HI.out]; exact (HS.out e).lookF x
        have kK : ∀ e : Ext wr, (Instr.lookup 38 (.map (some s.bk)) (.int .i64 x) false).run Try.prog e.world = .ok (.int .i64 (K' x)) e.world := fun e => (HS.out e).lookK x
        have HFD : Hid (∀ e : Ext wr, Calls Try.prog 28 #[.pointer (some ⟨s.b, 0, none⟩), .int .i64 x] e.world fun x w' => x = .returned (.bool true) ∧ e.world = w') := Lib.hid (fun e => by
          rw [← decide_eq_true hF]; exact founded_any (HS.out e) x)
        have hxI : InI x := by unfold InI; omega
        have hlen : (l.length + 1) * 8 ≤ 140737488351232 := by have := HCN.out; omega
        have HF := Lib.hid hF
        clear hF hi hinv
        cases ho : offB a x with
        | true =>
          have HOF : Hid (∀ e : Ext wr, Calls Try.prog 29 #[.pointer (some ⟨s.b, 0, none⟩), .int .i64 x] e.world fun x w' => x = .returned (.bool true) ∧ e.world = w') := Lib.hid (fun e => by
            rw [← ho]; exact off_any (HS.out e) x (by omega) (by omega))
          go_wp2
          refine wp_region_ext (by kernel_rfl) (by kernel_rfl) ?_
          repeat (go_big_quiet_step ((first | (go_at_call 28; exact Calls.ext_of_same (HFD.out _)) | (go_at_call 29; exact Calls.ext_of_same (HOF.out _)))))
          refine wpQuiet_nil ?_
          intro _ hw'
          obtain ⟨⟨w9, hb9⟩, rfl⟩ := hw'
          try dsimp only
          have HQ9 := Lib.hid (HQ.out.below hb9)
          have HL9 := Lib.hid (HLM.out.trans (.of_below hb9 ht.2))
          go_wp2_with (go_at_call 47; refine (drop_any HQ9.out x hxI hlen).mono ?_; rintro e w1 ⟨rfl, hl1, hq1⟩; have HN := Lib.hid (LSt.dropped (X' := x + 1) (R' := fun z _ => x + 1 ≤ z) HLI.out HCN.out HL9.out HF.out hl1 hq1 (fun z h1 h2 => by omega) (fun z i h1 h2 => by show x + 1 ≤ z; have : x ≤ z := h2; omega)); clear hl1 hq1)
          first
            | (go_roundw
               case rel => (exact ⟨x + 1, by omega, by omega, rfl, HN.out⟩)
               case measure => (simp [intOf]; omega))
            | (refine ⟨?_, ?_⟩
               · (exact ⟨x + 1, by omega, by omega, rfl, HN.out⟩)
               · (simp [intOf]; omega))
        | false =>
          have HOF : Hid (∀ e : Ext wr, Calls Try.prog 29 #[.pointer (some ⟨s.b, 0, none⟩), .int .i64 x] e.world fun x w' => x = .returned (.bool false) ∧ e.world = w') := Lib.hid (fun e => by
            rw [← ho]; exact off_any (HS.out e) x (by omega) (by omega))
          cases hav : availB p a F' K' i (K' x) with
          | true =>
            have HAV : Hid (∀ e : Ext wr, Calls Try.prog 48 #[.pointer (some ⟨s.b, 0, none⟩), .int .i64 i, .int .i64 (K' x)] e.world fun x w' => x = .returned (.bool true) ∧ Below e.world.heap.size e.world w') := Lib.hid (fun e => by
              rw [← hav]; exact available_any (HS.out e) i hil (K' x))
            go_wp2
            refine wp_region_ext (by kernel_rfl) (by kernel_rfl) ?_
            repeat (go_big_quiet_step ((first | (go_at_call 28; exact Calls.ext_of_same (HFD.out _)) | (go_at_call 29; exact Calls.ext_of_same (HOF.out _)) | (go_at_call 48; exact Calls.ext_of (HAV.out _)))))
            refine wpQuiet_nil ?_
            intro _ hw'
            obtain ⟨⟨w9, hb9⟩, rfl⟩ := hw'
            try dsimp only
            go_wp2
            first
              | (go_roundw
                 case rel => (exact ⟨x + 1, by omega, by omega, rfl, F', K', l, HQ.out.below hb9, HLI.out.keep (fun z h1 h2 => by by_cases e : z = x; (subst e; right; exact ho); (left; omega)) (fun z h1 h2 => by by_cases e : z = x; (subst e; left; rw [HI.out, Int.add_sub_cancel]; exact hav); (right; show x + 1 ≤ z; have : x ≤ z := h2; omega)), HLM.out.trans (.of_below hb9 ht.2), HCN.out⟩)
                 case measure => (simp [intOf]; omega))
              | (refine ⟨?_, ?_⟩
                 · (exact ⟨x + 1, by omega, by omega, rfl, F', K', l, HQ.out.below hb9, HLI.out.keep (fun z h1 h2 => by by_cases e : z = x; (subst e; right; exact ho); (left; omega)) (fun z h1 h2 => by by_cases e : z = x; (subst e; left; rw [HI.out, Int.add_sub_cancel]; exact hav); (right; show x + 1 ≤ z; have : x ≤ z := h2; omega)), HLM.out.trans (.of_below hb9 ht.2), HCN.out⟩)
                 · (simp [intOf]; omega))
          | false =>
            have HAV : Hid (∀ e : Ext wr, Calls Try.prog 48 #[.pointer (some ⟨s.b, 0, none⟩), .int .i64 i, .int .i64 (K' x)] e.world fun x w' => x = .returned (.bool false) ∧ Below e.world.heap.size e.world w') := Lib.hid (fun e => by
              rw [← hav]; exact available_any (HS.out e) i hil (K' x))
            go_wp2
            refine wp_region_ext (by kernel_rfl) (by kernel_rfl) ?_
            repeat (go_big_quiet_step ((first | (go_at_call 28; exact Calls.ext_of_same (HFD.out _)) | (go_at_call 29; exact Calls.ext_of_same (HOF.out _)) | (go_at_call 48; exact Calls.ext_of (HAV.out _)))))
            refine wpQuiet_nil ?_
            intro _ hw'
            obtain ⟨⟨w9, hb9⟩, rfl⟩ := hw'
            try dsimp only
            have HQ9 := Lib.hid (HQ.out.below hb9)
            have HL9 := Lib.hid (HLM.out.trans (.of_below hb9 ht.2))
            go_wp2_with (go_at_call 47; refine (drop_any HQ9.out x hxI hlen).mono ?_; rintro e w1 ⟨rfl, hl1, hq1⟩; have HN := Lib.hid (LSt.dropped (X' := x + 1) (R' := fun z _ => x + 1 ≤ z) HLI.out HCN.out HL9.out HF.out hl1 hq1 (fun z h1 h2 => by omega) (fun z i h1 h2 => by show x + 1 ≤ z; have : x ≤ z := h2; omega)); clear hl1 hq1)
            first
              | (go_roundw
                 case rel => (exact ⟨x + 1, by omega, by omega, rfl, HN.out⟩)
                 case measure => (simp [intOf]; omega))
              | (refine ⟨?_, ?_⟩
                 · (exact ⟨x + 1, by omega, by omega, rfl, HN.out⟩)
                 · (simp [intOf]; omega))
      · have HFD : Hid (∀ e : Ext wr, Calls Try.prog 28 #[.pointer (some ⟨s.b, 0, none⟩), .int .i64 x] e.world fun x w' => x = .returned (.bool false) ∧ e.world = w') := Lib.hid (fun e => by
          rw [← decide_eq_false hF]; exact founded_any (HS.out e) x)
        go_wp2
        refine wp_region_ext (by kernel_rfl) (by kernel_rfl) ?_
        repeat (go_big_quiet_step ((first | (go_at_call 28; exact Calls.ext_of_same (HFD.out _)))))
        refine wpQuiet_nil ?_
        intro _ hw'
        obtain ⟨⟨w9, hb9⟩, rfl⟩ := hw'
        try dsimp only
        go_wp2
        first
          | (go_roundw
             case rel => (exact ⟨x + 1, by omega, by omega, rfl, F', K', l, HQ.out.below hb9, HLI.out.keep (fun z h1 h2 => by by_cases e : z = x; (subst e; omega); (left; omega)) (fun z h1 h2 => by by_cases e : z = x; (subst e; omega); (right; show x + 1 ≤ z; omega)), HLM.out.trans (.of_below hb9 ht.2), HCN.out⟩)
             case measure => (simp [intOf]; omega))
          | (refine ⟨?_, ?_⟩
             · (exact ⟨x + 1, by omega, by omega, rfl, F', K', l, HQ.out.below hb9, HLI.out.keep (fun z h1 h2 => by by_cases e : z = x; (subst e; omega); (left; omega)) (fun z h1 h2 => by by_cases e : z = x; (subst e; omega); (right; show x + 1 ≤ z; omega)), HLM.out.trans (.of_below hb9 ht.2), HCN.out⟩)
             · (simp [intOf]; omega))
    · have hst : Hid (LSt w.heap.size w.heap.size (w.heap.size + 1) s p clock a w (p.n + 1) (fun _ _ => False) p.n.toNat wr) := Lib.hid ⟨F', K', l, HQ.out, HLI.out.keep (fun z h1 h2 => by left; omega) (fun z h1 h2 => by
        rcases HLI.out.inv z with h3 | h3
        · omega
        · have : x ≤ z := h2
          omega), HLM.out, HCN.out⟩
      go_wp2
      obtain ⟨wo, rfl⟩ : ∃ wo : World, wo = wr := ⟨_, rfl⟩
      clear kb ko kb0 ko0 HS HQ HLI HLM HCN hbox ht zb
      go_loopg [] p.n.toNat (fun k wx => LSt w.heap.size w.heap.size (w.heap.size + 1) s p clock a w (p.n + 1) (fun _ _ => False) k wx)
      case atStart => exact hst.out
      case round =>
        obtain ⟨F2, K2, l2, hqs, hli, hlim, hcnt⟩ := hrel
        have HLI := Lib.hid hli
        have HLM := Lib.hid hlim
        have HCN := Lib.hid hcnt
        clear hst hli hlim hcnt
        cases l2 with
        | nil =>
          have HP : Hid (LosePost s p a clock w wr) := Lib.hid ⟨HLM.out, F2, K2, HLI.out.done (by omega) (fun _ _ h => h), hqs.src⟩
          obtain ⟨vq, hq, hr⟩ := hqs.queue
          obtain ⟨aq, nq, cq, rfl⟩ := hr.form
          obtain rfl : nq = 0 := by
            rcases hr.2 with ⟨e, _⟩ | ⟨_, _, _, _, e, _⟩
            · simp only [Value.slice.injEq] at e; exact e.2.1
            · simp only [Value.slice.injEq] at e; exact e.2.1
          have kq := hq.cell
          clear hq hr hqs
          go_wp2
          refine bodyPost_end (v := .tuple #[]) ?_ rfl ?_
          · simp [results, Try.results26, go_sem]
          · exact ⟨rfl, HP.out⟩
        | cons y l2 =>
          have hy := HLI.out.q y (.head _)
          have hrowU := hqs.src.rowsU
          obtain ⟨g, off, cap, av, hq, hkg, hcap1, hcap2, hyI, hsl, hpop⟩ := hqs.pop
          have HPOP := Lib.hid hpop
          have kq := hq.cell
          have fq := hq.free
          have hbx := hqs.box.lt
          have hlo := hqs.lo
          have zq := hq.lt
          have kb := hqs.box.cell
          obtain ⟨va, hob, -⟩ := hqs.src.obj
          have ko := hob.cell
          have ht := hqs.src.top
          have hh := hqs.src.hi
          obtain ⟨au, cu, hvu, -, hlu, -, -⟩ := (hqs.src.now.useRow y).form
          have HVU := Lib.hid hvu
          have HRU := Lib.hid hrowU
          have HY := Lib.hid hy
          have hz2 : 2 ≤ 3 := by omega
          clear hrowU hvu hqs hob hq
          go_upto_region 11 with fail
          have HST : Hid (LSt w.heap.size w.heap.size (w.heap.size + 1) s p clock a w (p.n + 1) (R3 (s.Ru y) 0) (gk - 1) (wr.setCell ⟨w.heap.size + 1, 0, none⟩ (.slice av l2.length (cap - 1)))) := Lib.hid ⟨F2, K2, l2, HPOP.out, HLI.out.pop (fun z i h => absurd h id) (fun z i _ h => R3.start HRU.out HY.out.1 h), HLM.out.trans (.setCell _ (.inr (by omega))), by have := HCN.out; simp only [List.length_cons] at this; omega⟩
          have HGK : Hid (gk - 1 < gk) := Lib.hid (by have := HCN.out; simp only [List.length_cons] at this; omega)
          have HZ : Hid ((wr.setCell ⟨w.heap.size + 1, 0, none⟩ (.slice av l2.length (cap - 1))).heap.size = wr.heap.size) := Lib.hid (by simp [World.setCell])
          clear kb ko kq fq hkg hsl
          generalize wr.setCell ⟨w.heap.size + 1, 0, none⟩ (.slice av l2.length (cap - 1)) = W1 at HST HPOP HZ ⊢
          have kb := HPOP.out.box.cell
          obtain ⟨va1, hob, -⟩ := HPOP.out.src.obj
          have ko := hob.cell
          have hlk : (Instr.lookup 59 (.map (some s.bu)) (.int .i64 y) false).run Try.prog W1 = .ok (.slice au (s.Ru y).length cu) W1 := by
            have := HPOP.out.src.now.uses.lookup kvInt Try.underlying59 Try.underlying3 (Try.zeroValue23 W1) y
            rw [← HVU.out]; exact this
          clear hob
          go_wp2
          obtain ⟨wo2, rfl⟩ : ∃ wo : World, wo = wr := ⟨_, rfl⟩
          clear kb ko hlk HPOP HLI HLM HCN
          go_loopw [66] (fun i wx => LR3 w.heap.size w.heap.size (w.heap.size + 1) s p clock a w (s.Ru y) (gk - 1) i wx) (fun i _ => (s.Ru y).length - (intOf i).toNat)
          case atStart => exact ⟨0, Nat.zero_le _, rfl, HST.out⟩
          case round =>
            obtain ⟨k, hk, rfl, F3, K3, l3, hqs, hli, hlim, hcnt⟩ := hrel
            have HLI := Lib.hid hli
            have HLM := Lib.hid hlim
            have HCN := Lib.hid hcnt
            have HQ := Lib.hid hqs
            clear HST hli hlim hcnt
            by_cases hlt : k < (s.Ru y).length
            · obtain ⟨i, hii, hil⟩ := rowU_at HRU.out hlt
              have hi4 : i ≤ 40000 := by omega
              have hfx := hqs.src.now
              obtain ⟨bu, offu, hau, hblu, hcu⟩ := Ints.at (by rw [← HVU.out]; exact hfx.useRow y) hlt
              subst hau
              rw [hii] at hcu
              obtain ⟨ar, cr, hvr2, hcr⟩ := hfx.cells
              obtain ⟨br, offr, har, hbr, hcc⟩ := hcr (by omega)
              subst har
              obtain ⟨-, rc1, -⟩ := hcc i hil
              obtain ⟨ah, ch, hvh, -, hlh, -, -⟩ := (hfx.rulesA.2 i hil).head.form
              rw [hvh] at rc1
              have HVH := Lib.hid hvh
              have kb := hqs.box.cell
              obtain ⟨va3, hob, -⟩ := hqs.src.obj
              have ko := hob.cell
              rw [hvr2] at ko
              have HII := Lib.hid hii
              have HST4 : Hid (LSt w.heap.size w.heap.size (w.heap.size + 1) s p clock a w (p.n + 1) (R4 (s.Ru y) (ixR p.rules i).head k 0) (gk - 1) wr) := Lib.hid ⟨F3, K3, l3, hqs, HLI.out.keep (fun z h1 h2 => .inl h2) (fun z h1 h2 => .inr (R4.start h2 (fun h3 => by
                rcases HLI.out.inv z with h4 | h4
                · omega
                · have := h4.2.2.2.1.2.2
                  rw [h3, HII.out] at this
                  simpa using this))), HLM.out, HCN.out⟩
              clear hfx hcr hcc hvh hvr2 hob hqs hii
              go_wp2
              obtain ⟨wo3, rfl⟩ : ∃ wo : World, wo = wr := ⟨_, rfl⟩
              clear kb ko HQ HLI HLM HCN rc1 hcu
              go_loopw [81] (fun iv wx => LR4 w.heap.size w.heap.size (w.heap.size + 1) s p clock a w (s.Ru y) (ixR p.rules i).head k (gk - 1) iv wx) (fun iv _ => (ixR p.rules i).head.length - (intOf iv).toNat)
              case atStart => exact ⟨0, Nat.zero_le _, rfl, HST4.out⟩
              case round =>
                obtain ⟨n, hn, rfl, F4, K4, l4, hqs, hli, hlim, hcnt⟩ := hrel
                have HLI := Lib.hid hli
                have HLM := Lib.hid hlim
                have HCN := Lib.hid hcnt
                have HQ := Lib.hid hqs
                clear HST4 hli hlim hcnt
                by_cases hlt4 : n < (ixR p.rules i).head.length
                · obtain ⟨bh, offh, hah, hblh, hch⟩ := Ints.at (by rw [← HVH.out]; exact (hqs.src.now.rulesA.2 i hil).head) hlt4
                  subst hah
                  obtain ⟨h, hhd⟩ : ∃ h, h = ix (ixR p.rules i).head n := ⟨_, rfl⟩
                  rw [← hhd] at hch
                  have HHD := Lib.hid hhd
                  have hbox := hqs.box.lt
                  have ht4 := hqs.src.top
                  obtain ⟨va4, hob, -⟩ := hqs.src.obj
                  have zb := hob.lt
                  have kb : ∀ e : Ext wr, ∀ o, e.world.cell? ⟨w.heap.size, o, none⟩ = [Value.pointer (some ⟨s.b, 0, none⟩)][o]? := fun e o => (bcell e.below _ o hbox).trans (HQ.out.box.cell o)
                  have ko : ∀ e : Ext wr, ∀ o, e.world.cell? ⟨s.b, o, none⟩ = [Value.int .i64 p.n, s.vn, nilS, s.vr, nilS, .map (some s.bh), .map (some s.bu), .map (some s.bf), .map (some s.bk), .int .i64 clock, va4][o]? := fun e o => (bcell e.below _ o zb).trans (hob.cell o)
                  have HS : Hid (∀ e : Ext wr, Src w.heap.size s p F4 K4 clock a e.world) := Lib.hid (fun e => HQ.out.src.below e.below)
                  have hfit : InI h := by have := HQ.out.src.rowsH; have h1 := (HQ.out.src.now.rulesA.2 i hil).head.2 n; rw [← hhd] at h1; exact h1
                  have hbi : InI (F4 h) := HQ.out.src.fitF h
                  unfold InI at hbi
                  have kK : ∀ e : Ext wr, (Instr.lookup 38 (.map (some s.bk)) (.int .i64 h) false).run Try.prog e.world = .ok (.int .i64 (K4 h)) e.world := fun e => (HS.out e).lookK h
                  clear hqs hob hhd
                  by_cases hF : F4 h = i + 1
                  · have kF : ∀ e : Ext wr, (Instr.lookup 38 (.map (some s.bf)) (.int .i64 h) false).run Try.prog e.world = .ok (.int .i64 ((i : Int) + 1)) e.world := fun e => by rw [← hF]; exact (HS.out e).lookF h
                    have HF := Lib.hid hF
                    have HF0 : Hid (0 < F4 h) := Lib.hid (by omega)
                    clear hF hbi
                    cases hav : availB p a F4 K4 i (K4 h) with
                    | true =>
                      have HAV : Hid (∀ e : Ext wr, Calls Try.prog 48 #[.pointer (some ⟨s.b, 0, none⟩), .int .i64 i, .int .i64 (K4 h)] e.world fun x w' => x = .returned (.bool true) ∧ Below e.world.heap.size e.world w') := Lib.hid (fun e => by
                        rw [← hav]; exact available_any (HS.out e) i hil (K4 h))
                      go_wp2
                      refine wp_region_ext (by kernel_rfl) (by kernel_rfl) ?_
                      repeat (go_big_quiet_step ((first | (go_at_call 48; exact Calls.ext_of (HAV.out _)))))
                      refine wpQuiet_nil ?_
                      intro _ hw'
                      obtain ⟨⟨w9, hb9⟩, rfl⟩ := hw'
                      try dsimp only
                      go_wp2
                      first
                        | (go_roundw
                           case rel => (exact ⟨n + 1, by omega, by go_num, F4, K4, l4, HQ.out.below hb9, HLI.out.keep (fun z h1 h2 => .inl h2) (fun z h1 h2 => (R4.next h2).imp (fun ⟨e1, e2⟩ => by rw [HII.out] at e2; rw [e1, ← HHD.out, HF.out, Int.add_sub_cancel]; exact hav) id), HLM.out.trans (.of_below hb9 ht4.2), HCN.out⟩)
                           case measure => (simp [intOf]; omega))
                        | (refine ⟨?_, ?_⟩
                           · (exact ⟨n + 1, by omega, by go_num, F4, K4, l4, HQ.out.below hb9, HLI.out.keep (fun z h1 h2 => .inl h2) (fun z h1 h2 => (R4.next h2).imp (fun ⟨e1, e2⟩ => by rw [HII.out] at e2; rw [e1, ← HHD.out, HF.out, Int.add_sub_cancel]; exact hav) id), HLM.out.trans (.of_below hb9 ht4.2), HCN.out⟩)
                           · (simp [intOf]; omega))
                    | false =>
                      have HAV : Hid (∀ e : Ext wr, Calls Try.prog 48 #[.pointer (some ⟨s.b, 0, none⟩), .int .i64 i, .int .i64 (K4 h)] e.world fun x w' => x = .returned (.bool false) ∧ Below e.world.heap.size e.world w') := Lib.hid (fun e => by
                        rw [← hav]; exact available_any (HS.out e) i hil (K4 h))
                      have hlen : (l4.length + 1) * 8 ≤ 140737488351232 := by have := HLI.out.cnt; have := HCN.out; omega
                      go_wp2
                      refine wp_region_ext (by kernel_rfl) (by kernel_rfl) ?_
                      repeat (go_big_quiet_step ((first | (go_at_call 48; exact Calls.ext_of (HAV.out _)))))
                      refine wpQuiet_nil ?_
                      intro _ hw'
                      obtain ⟨⟨w9, hb9⟩, rfl⟩ := hw'
                      try dsimp only
                      have HQ9 := Lib.hid (HQ.out.below hb9)
                      have HL9 := Lib.hid (HLM.out.trans (.of_below hb9 ht4.2))
                      go_wp2_with (go_at_call 47; refine (drop_any HQ9.out h hfit hlen).mono ?_; rintro e w1 ⟨rfl, hl1, hq1⟩; have HN := Lib.hid (LSt.dropped (X' := p.n + 1) (R' := R4 (s.Ru y) (ixR p.rules i).head k (n + 1)) HLI.out HCN.out HL9.out HF0.out hl1 hq1 (fun z h1 h2 => h1) (fun z j h1 h2 => (R4.next h2).resolve_left (fun h3 => h1 (h3.1.trans HHD.out.symm)))); clear hl1 hq1)
                      first
                        | (go_roundw
                           case rel => (exact ⟨n + 1, by omega, by go_num, HN.out⟩)
                           case measure => (simp [intOf]; omega))
                        | (refine ⟨?_, ?_⟩
                           · (exact ⟨n + 1, by omega, by go_num, HN.out⟩)
                           · (simp [intOf]; omega))
                  · have kF : ∀ e : Ext wr, (Instr.lookup 38 (.map (some s.bf)) (.int .i64 h) false).run Try.prog e.world = .ok (.int .i64 (F4 h)) e.world := fun e => (HS.out e).lookF h
                    have hne : (F4 h == (i : Int) + 1) = false := by simpa using hF
                    have HF := Lib.hid hF
                    clear hF
                    go_wp2
                    refine wp_region_ext (by kernel_rfl) (by kernel_rfl) ?_
                    repeat (go_big_quiet_step (fail))
                    refine wpQuiet_nil ?_
                    intro _ hw'
                    obtain ⟨⟨w9, hb9⟩, rfl⟩ := hw'
                    try dsimp only
                    go_wp2
                    first
                      | (go_roundw
                         case rel => (exact ⟨n + 1, by omega, by go_num, F4, K4, l4, HQ.out.below hb9, HLI.out.keep (fun z h1 h2 => .inl h2) (fun z h1 h2 => .inr ((R4.next h2).resolve_left (fun ⟨e1, e2⟩ => by rw [HII.out] at e2; rw [e1, ← HHD.out] at e2; exact HF.out (by omega)))), HLM.out.trans (.of_below hb9 ht4.2), HCN.out⟩)
                         case measure => (simp [intOf]; omega))
                      | (refine ⟨?_, ?_⟩
                         · (exact ⟨n + 1, by omega, by go_num, F4, K4, l4, HQ.out.below hb9, HLI.out.keep (fun z h1 h2 => .inl h2) (fun z h1 h2 => .inr ((R4.next h2).resolve_left (fun ⟨e1, e2⟩ => by rw [HII.out] at e2; rw [e1, ← HHD.out] at e2; exact HF.out (by omega)))), HLM.out.trans (.of_below hb9 ht4.2), HCN.out⟩)
                         · (simp [intOf]; omega))
                · have hst : Hid (LSt w.heap.size w.heap.size (w.heap.size + 1) s p clock a w (p.n + 1) (R3 (s.Ru y) (k + 1)) (gk - 1) wr) := Lib.hid ⟨F4, K4, l4, hqs, HLI.out.keep (fun z h1 h2 => .inl h2) (fun z h1 h2 => by
                    obtain rfl : n = (ixR p.rules i).head.length := by omega
                    exact .inr (R4.done h2)), HLM.out, HCN.out⟩
                  clear hqs
                  go_wp2
                  first
                    | (go_roundw
                       case rel => (exact ⟨k + 1, by omega, by go_num, hst.out⟩)
                       case measure => (simp [intOf]; omega))
                    | (refine ⟨?_, ?_⟩
                       · (exact ⟨k + 1, by omega, by go_num, hst.out⟩)
                       · (simp [intOf]; omega))
            · have hst : Hid (LSt w.heap.size w.heap.size (w.heap.size + 1) s p clock a w (p.n + 1) (fun _ _ => False) (gk - 1) wr) := Lib.hid ⟨F3, K3, l3, hqs, HLI.out.keep (fun z h1 h2 => .inl h2) (fun z h1 h2 => by
                obtain rfl : k = (s.Ru y).length := by omega
                exact absurd h2 R3.done), HLM.out, HCN.out⟩
              clear hqs
              go_wp2
              go_roundg (gk - 1)
              case measure => exact HGK.out
              case rel => exact hst.out
end

end Go.Proofs.Ytdoecchigfdilaa

/- gain. -/
namespace Go.Proofs.Ytdoecchigfdilaa
open Go.RowKit

theorem increasing_at {l : List Int} {n : Int} (h : increasingB l n = true) {j : Nat} (hj : j < l.length) : 1 ≤ ix l j ∧ ix l j ≤ n := by
  have h1 := ordered_lit (increasing_ordered h) (ix_mem hj)
  unfold increasingB at h
  simp only [Bool.and_eq_true] at h
  have h2 := allR_get h.2 j hj
  simp only [decide_eq_true_eq] at h2
  omega

/-- gain, under way, in memory. -/
def GSt (base c1 q : Nat) (s : SP) (p : GP) (a : List Int) (w0 : World) (C0 : Int) (R : Int → Int → Prop) (n : Nat) (wx : World) : Prop :=
  ∃ F K clock l, QS base c1 q s p F K clock a l wx ∧ GI p a F K clock C0 l R ∧ Lim base s.mut w0 wx ∧ p.n.toNat + l.length ≤ n + cntF F p.n.toNat

def GR1 (base c1 q : Nat) (s : SP) (p : GP) (a : List Int) (w0 : World) (C0 : Int) (i : Value) (wx : World) : Prop :=
  ∃ x : Int, 1 ≤ x ∧ x ≤ p.n + 1 ∧ i = .int .i64 x ∧ GSt base c1 q s p a w0 C0 (fun z _ => x ≤ z) p.n.toNat wx

def GR3 (base c1 q : Nat) (s : SP) (p : GP) (a : List Int) (w0 : World) (C0 : Int) (row : List Int) (N : Nat) (i : Value) (wx : World) : Prop :=
  ∃ k : Nat, k ≤ row.length ∧ i = .int .i64 k ∧ GSt base c1 q s p a w0 C0 (R3 row k) N wx

def GR4 (base c1 q : Nat) (s : SP) (p : GP) (a : List Int) (w0 : World) (C0 : Int) (row head : List Int) (k N : Nat) (i : Value) (wx : World) : Prop :=
  ∃ m : Nat, m ≤ head.length ∧ i = .int .i64 m ∧ GSt base c1 q s p a w0 C0 (R4 row head k m) N wx

def GainPost (s : SP) (p : GP) (a : List Int) (clock : Int) (w w' : World) : Prop :=
  Lim w.heap.size s.mut w w' ∧ ∃ F' K' clock', Found p a F' K' clock' ∧ clock' ≤ clock + 4000 ∧ Src w.heap.size s p F' K' clock' a w'

section
variable {m : Nat} {s : SP} {p : GP} {F K : Int → Int} {clock : Int} {a : List Int} {w : World}

theorem GSt.start (h : Src m s p F K clock a w) (hi : Lost p a F K clock) : ∀ w', w' = (w.alloc (.cells #[.pointer (some ⟨s.b, 0, none⟩)] 33)).alloc (.cells #[nilS] 23) →
    GR1 w.heap.size w.heap.size (w.heap.size + 1) s p a w clock (.int .i64 1) w' := by
  rintro w' rfl
  have hv := validP h.valid
  have hvn := hv.n
  have h1 := GI.start (p := p) (a := a) hi
  have ht := h.top
  have hb : Below w.heap.size w ((w.alloc (.cells #[.pointer (some ⟨s.b, 0, none⟩)] 33)).alloc (.cells #[nilS] 23)) := bal (bal (Below.refl _ _) _) _
  exact ⟨1, by omega, by omega, rfl, F, K, clock, [], ⟨(h.mono ht.2 (Nat.le_refl _)).below hb, (Blk.new w _ _).alloc _, ⟨nilS, Blk.new2 w _ _ _, QRow.nil _ _⟩, ⟨Nat.le_refl _, by omega⟩⟩, h1, .of_below hb (Nat.le_refl _), by simp⟩

/-- x has been tried. -/
theorem GSt.tried {base c1 q N : Nat} {l : List Int} {x C0 : Int} {R R' : Int → Int → Prop} {w0 w1 w2 : World} (hrow : RowsAt (fun _ => true) (fun i => (ixR p.rules i).head) p.rules.length 0 s.Rh) (hc : 0 ≤ clock)
    (h : GI p a F K clock C0 l R) (hn : p.n.toNat + l.length ≤ N + cntF F p.n.toNat) (hl : Lim base s.mut w0 w1) (hx : 1 ≤ x ∧ x ≤ p.n)
    (h1 : Lim base s.mut w1 w2) (h2 : TryPost base c1 q s p F K clock a l x w2) (hR : ∀ z i, z ≠ x → R z i → R' z i) : GSt base c1 q s p a w0 C0 R' N w2 := by
  have hmem : ∀ i, i ∈ s.Rh x ↔ InHead p i x := fun i => by
    rw [(hrow x).2 i]; simp [InHead]
  rcases h2 with ⟨h3, h4, i, h5, h6, h7⟩ | ⟨h3, h7⟩
  · refine ⟨_, _, _, _, h7, h.push hc x i h3 hx h4 ((hmem i).1 h5) h6 hR, hl.trans h1, ?_⟩
    have := cntF_up F x (i + 1) h3 (by have := ((hmem i).1 h5).1; omega) p.n.toNat hx.1 (by omega)
    simp only [List.length_append, List.length_singleton]
    omega
  · refine ⟨_, _, _, _, h7, h.keep (fun z i h4 h5 h6 h8 h9 h10 => ?_), hl.trans h1, hn⟩
    by_cases e : z = x
    · subst e
      rcases h3 with h3 | h3 | h3
      · exact absurd h3 h6
      · rw [h8] at h3; cases h3
      · exact .inl (h3 i ((hmem i).2 h9))
    · exact .inr (hR z i e h10)

theorem GI.small {l : List Int} {C0 : Int} {R : Int → Int → Prop} (h : GI p a F K clock C0 l R) (hn : 0 ≤ p.n ∧ p.n ≤ 4000) (hC : C0 ≤ 2305843009213693952) : (l.length + 1) * 8 ≤ 140737488351232 ∧ clock < 4611686018427387904 ∧ l.length ≤ 4000 := by
  have h1 := cntF_le F p.n.toNat
  have h2 := h.cnt
  have h3 := h.clk
  omega

set_option maxHeartbeats 4000000 in
set_option maxRecDepth 100000 in
theorem gain_any (h : Src m s p F K clock a w) (hi : Lost p a F K clock) (hC : clock ≤ 2305843009213693952) :
    Calls Try.prog 27 #[.pointer (some ⟨s.b, 0, none⟩)] w fun e w' => e = .returned (.tuple #[]) ∧ GainPost s p a clock w w' := by
  have HST := Lib.hid (GSt.start h hi)
  have hv := validP h.valid
  have hvn := hv.n
  have hvr := hv.rules
  have HHD := Lib.hid hv.head
  clear h hi hv
  go_enter Try.func27, Try.ntmps27
  go_wp2
  go_loopw [4] (fun i wx => GR1 w.heap.size w.heap.size (w.heap.size + 1) s p a w clock i wx) (fun i _ => (p.n + 1 - intOf i).toNat)
  case atStart => exact HST.out _ rfl
  case round =>
    obtain ⟨x, hx1, hx2, rfl, F', K', clk, l, hqs, hli, hlim, hcnt⟩ := hrel
    have HQ := Lib.hid hqs
    have HLI := Lib.hid hli
    have HLM := Lib.hid hlim
    have HCN := Lib.hid hcnt
    have hsm := hli.small hvn hC
    have kb0 := hqs.box.cell
    obtain ⟨va, hob, -⟩ := hqs.src.obj
    have ko0 := hob.cell
    have HROW := Lib.hid hqs.src.rowsH
    have HCL := Lib.hid hqs.src.fitC.1
    clear hqs hli hlim hcnt hob
    by_cases hlt : x ≤ p.n
    · have hxr : 1 ≤ x ∧ x ≤ 4000 := by omega
      go_wp2_with (go_at_call 49; refine (try_any HQ.out x hxr hsm.1 hsm.2.1).mono ?_; rintro e w1 ⟨rfl, hl1, hq1⟩; have HN := Lib.hid (GSt.tried (R' := fun z _ => x + 1 ≤ z) HROW.out HCL.out HLI.out HCN.out HLM.out ⟨hx1, hlt⟩ hl1 hq1 (fun z i h1 h2 => by show x + 1 ≤ z; have : x ≤ z := h2; omega)); clear hl1 hq1)
      first
        | (go_roundw
           case rel => (exact ⟨x + 1, by omega, by omega, rfl, HN.out⟩)
           case measure => (simp [intOf]; omega))
        | (refine ⟨?_, ?_⟩
           · (exact ⟨x + 1, by omega, by omega, rfl, HN.out⟩)
           · (simp [intOf]; omega))
    · have hst : Hid (GSt w.heap.size w.heap.size (w.heap.size + 1) s p a w clock (fun _ _ => False) p.n.toNat wr) := Lib.hid ⟨F', K', clk, l, HQ.out, HLI.out.keep (fun z i h1 h2 h3 h4 h5 h6 => by
        have : x ≤ z := h6
        omega), HLM.out, HCN.out⟩
      go_wp2
      obtain ⟨wo, rfl⟩ : ∃ wo : World, wo = wr := ⟨_, rfl⟩
      clear kb0 ko0 HQ HLI HLM HCN HROW HCL hsm
      go_loopg [] p.n.toNat (fun k wx => GSt w.heap.size w.heap.size (w.heap.size + 1) s p a w clock (fun _ _ => False) k wx)
      case atStart => exact hst.out
      case round =>
        obtain ⟨F2, K2, clk2, l2, hqs, hli, hlim, hcnt⟩ := hrel
        have HLI := Lib.hid hli
        have HLM := Lib.hid hlim
        have HCN := Lib.hid hcnt
        have hsm := hli.small hvn hC
        clear hst hli hlim hcnt
        cases l2 with
        | nil =>
          have HP : Hid (GainPost s p a clock w wr) := Lib.hid (by
            obtain ⟨h1, h2⟩ := HLI.out.done (fun _ _ h => h)
            have h3 := cntF_le F2 p.n.toNat
            exact ⟨HLM.out, F2, K2, clk2, h1, by omega, hqs.src⟩)
          obtain ⟨vq, hq, hr⟩ := hqs.queue
          obtain ⟨aq, nq, cq, rfl⟩ := hr.form
          obtain rfl : nq = 0 := by
            rcases hr.2 with ⟨e, _⟩ | ⟨_, _, _, _, e, _⟩
            · simp only [Value.slice.injEq] at e; exact e.2.1
            · simp only [Value.slice.injEq] at e; exact e.2.1
          have kq := hq.cell
          clear hq hr hqs
          go_wp2
          refine bodyPost_end (v := .tuple #[]) ?_ rfl ?_
          · simp [results, Try.results27, go_sem]
          · exact ⟨rfl, HP.out⟩
        | cons y l2 =>
          have hy := HLI.out.q y (.head _)
          have hrowU := hqs.src.rowsU
          obtain ⟨g, off, cap, av, hq, hkg, hcap1, hcap2, hyI, hsl, hpop⟩ := hqs.pop
          have HPOP := Lib.hid hpop
          have kq := hq.cell
          have fq := hq.free
          have hbx := hqs.box.lt
          have hlo := hqs.lo
          have zq := hq.lt
          have kb := hqs.box.cell
          obtain ⟨va, hob, -⟩ := hqs.src.obj
          have ko := hob.cell
          have ht := hqs.src.top
          have hh := hqs.src.hi
          obtain ⟨au, cu, hvu, -, hlu, -, -⟩ := (hqs.src.now.useRow y).form
          have HVU := Lib.hid hvu
          have HRU := Lib.hid hrowU
          have HY := Lib.hid hy
          clear hrowU hvu hqs hob hq
          go_upto_region 10 with fail
          have HST : Hid (GSt w.heap.size w.heap.size (w.heap.size + 1) s p a w clock (R3 (s.Ru y) 0) (gk - 1) (wr.setCell ⟨w.heap.size + 1, 0, none⟩ (.slice av l2.length (cap - 1)))) := Lib.hid ⟨F2, K2, clk2, l2, HPOP.out, HLI.out.pop (fun z i h => absurd h id) (fun z i _ h => R3.start HRU.out HY.out.1 h), HLM.out.trans (.setCell _ (.inr (by omega))), by have := HCN.out; have := HLI.out.cnt; simp only [List.length_cons] at *; omega⟩
          have HGK : Hid (gk - 1 < gk) := Lib.hid (by have := HCN.out; have := cntF_le F2 p.n.toNat; simp only [List.length_cons] at *; omega)
          have HZ : Hid ((wr.setCell ⟨w.heap.size + 1, 0, none⟩ (.slice av l2.length (cap - 1))).heap.size = wr.heap.size) := Lib.hid (by simp [World.setCell])
          clear kb ko kq fq hkg hsl
          generalize wr.setCell ⟨w.heap.size + 1, 0, none⟩ (.slice av l2.length (cap - 1)) = W1 at HST HPOP HZ ⊢
          have kb := HPOP.out.box.cell
          obtain ⟨va1, hob, -⟩ := HPOP.out.src.obj
          have ko := hob.cell
          have hlk : (Instr.lookup 59 (.map (some s.bu)) (.int .i64 y) false).run Try.prog W1 = .ok (.slice au (s.Ru y).length cu) W1 := by
            have := HPOP.out.src.now.uses.lookup kvInt Try.underlying59 Try.underlying3 (Try.zeroValue23 W1) y
            rw [← HVU.out]; exact this
          clear hob
          go_wp2
          obtain ⟨wo2, rfl⟩ : ∃ wo : World, wo = wr := ⟨_, rfl⟩
          clear kb ko hlk HPOP HLI HLM HCN hsm
          go_loopw [40] (fun i wx => GR3 w.heap.size w.heap.size (w.heap.size + 1) s p a w clock (s.Ru y) (gk - 1) i wx) (fun i _ => (s.Ru y).length - (intOf i).toNat)
          case atStart => exact ⟨0, Nat.zero_le _, rfl, HST.out⟩
          case round =>
            obtain ⟨k, hk, rfl, F3, K3, clk3, l3, hqs, hli, hlim, hcnt⟩ := hrel
            have HLI := Lib.hid hli
            have HLM := Lib.hid hlim
            have HCN := Lib.hid hcnt
            have HQ := Lib.hid hqs
            clear HST hli hlim hcnt
            by_cases hlt : k < (s.Ru y).length
            · obtain ⟨i, hii, hil⟩ := rowU_at HRU.out hlt
              have hi4 : i ≤ 40000 := by omega
              have hfx := hqs.src.now
              obtain ⟨bu, offu, hau, hblu, hcu⟩ := Ints.at (by rw [← HVU.out]; exact hfx.useRow y) hlt
              subst hau
              rw [hii] at hcu
              obtain ⟨ar, cr, hvr2, hcr⟩ := hfx.cells
              obtain ⟨br, offr, har, hbr, hcc⟩ := hcr (by omega)
              subst har
              obtain ⟨-, rc1, -⟩ := hcc i hil
              obtain ⟨ah, ch, hvh, -, hlh, -, -⟩ := (hfx.rulesA.2 i hil).head.form
              rw [hvh] at rc1
              have HVH := Lib.hid hvh
              have kb := hqs.box.cell
              obtain ⟨va3, hob, -⟩ := hqs.src.obj
              have ko := hob.cell
              rw [hvr2] at ko
              have HII := Lib.hid hii
              have HST4 : Hid (GSt w.heap.size w.heap.size (w.heap.size + 1) s p a w clock (R4 (s.Ru y) (ixR p.rules i).head k 0) (gk - 1) wr) := Lib.hid ⟨F3, K3, clk3, l3, hqs, HLI.out.keep (fun z j _ _ _ _ h1 h2 => .inr (R4.start h2 (fun h3 => by
                  have := h1.2.2
                  rw [h3, HII.out] at this
                  simpa using this))), HLM.out, HCN.out⟩
              clear hfx hcr hcc hvh hvr2 hob hqs hii
              go_wp2
              obtain ⟨wo3, rfl⟩ : ∃ wo : World, wo = wr := ⟨_, rfl⟩
              clear kb ko HQ HLI HLM HCN rc1 hcu
              go_loopw [55] (fun iv wx => GR4 w.heap.size w.heap.size (w.heap.size + 1) s p a w clock (s.Ru y) (ixR p.rules i).head k (gk - 1) iv wx) (fun iv _ => (ixR p.rules i).head.length - (intOf iv).toNat)
              case atStart => exact ⟨0, Nat.zero_le _, rfl, HST4.out⟩
              case round =>
                obtain ⟨n, hn, rfl, F4, K4, clk4, l4, hqs, hli, hlim, hcnt⟩ := hrel
                have HLI := Lib.hid hli
                have HLM := Lib.hid hlim
                have HCN := Lib.hid hcnt
                have HQ := Lib.hid hqs
                have hsm := hli.small hvn hC
                clear HST4 hli hlim hcnt
                by_cases hlt4 : n < (ixR p.rules i).head.length
                · obtain ⟨bh, offh, hah, hblh, hch⟩ := Ints.at (by rw [← HVH.out]; exact (hqs.src.now.rulesA.2 i hil).head) hlt4
                  subst hah
                  have hhx := increasing_at (HHD.out i hil) hlt4
                  have HRR : Hid (∀ z j, z ≠ ix (ixR p.rules i).head n → R4 (s.Ru y) (ixR p.rules i).head k n z j → R4 (s.Ru y) (ixR p.rules i).head k (n + 1) z j) := Lib.hid (fun z j h1 h2 => (R4.next h2).resolve_left (fun h3 => h1 h3.1))
                  have HROW := Lib.hid hqs.src.rowsH
                  have HCL := Lib.hid hqs.src.fitC.1
                  generalize ix (ixR p.rules i).head n = h at *
                  have hxr : 1 ≤ h ∧ h ≤ 4000 := by omega
                  clear hqs
                  go_wp2_with (go_at_call 49; refine (try_any HQ.out h hxr hsm.1 hsm.2.1).mono ?_; rintro e w1 ⟨rfl, hl1, hq1⟩; have HN := Lib.hid (GSt.tried HROW.out HCL.out HLI.out HCN.out HLM.out hhx hl1 hq1 HRR.out); clear hl1 hq1)
                  first
                    | (go_roundw
                       case rel => (exact ⟨n + 1, by omega, by go_num, HN.out⟩)
                       case measure => (simp [intOf]; omega))
                    | (refine ⟨?_, ?_⟩
                       · (exact ⟨n + 1, by omega, by go_num, HN.out⟩)
                       · (simp [intOf]; omega))
                · have hst : Hid (GSt w.heap.size w.heap.size (w.heap.size + 1) s p a w clock (R3 (s.Ru y) (k + 1)) (gk - 1) wr) := Lib.hid ⟨F4, K4, clk4, l4, hqs, HLI.out.keep (fun z j _ _ _ _ h1 h2 => by
                    obtain rfl : n = (ixR p.rules i).head.length := by omega
                    exact .inr (R4.done h2)), HLM.out, HCN.out⟩
                  clear hqs
                  go_wp2
                  first
                    | (go_roundw
                       case rel => (exact ⟨k + 1, by omega, by go_num, hst.out⟩)
                       case measure => (simp [intOf]; omega))
                    | (refine ⟨?_, ?_⟩
                       · (exact ⟨k + 1, by omega, by go_num, hst.out⟩)
                       · (simp [intOf]; omega))
            · have hst : Hid (GSt w.heap.size w.heap.size (w.heap.size + 1) s p a w clock (fun _ _ => False) (gk - 1) wr) := Lib.hid ⟨F3, K3, clk3, l3, hqs, HLI.out.keep (fun z j _ _ _ _ h1 h2 => by
                obtain rfl : k = (s.Ru y).length := by omega
                exact absurd h2 R3.done), HLM.out, HCN.out⟩
              clear hqs
              go_wp2
              go_roundg (gk - 1)
              case measure => exact HGK.out
              case rel => exact hst.out

end

end Go.Proofs.Ytdoecchigfdilaa

/- Find and Source. -/
namespace Go.Proofs.Ytdoecchigfdilaa
open Go.RowKit

def findTo (F : Int → Int) (a : List Int) : Nat → List Int
  | 0 => []
  | k + 1 => if ¬ 0 < F ((k : Int) + 1) ∧ offB a ((k : Int) + 1) = false then findTo F a k ++ [(k : Int) + 1] else findTo F a k

theorem findTo_len (F : Int → Int) (a : List Int) : ∀ k, (findTo F a k).length ≤ k
  | 0 => Nat.le_refl _
  | k + 1 => by have := findTo_len F a k; unfold findTo; split <;> simp <;> omega

/-- What Find leaves and yields. -/
def FindPost (s : SP) (p : GP) (a : List Int) (clock : Int) (w : World) (e : Ending) (w' : World) : Prop :=
  Lim w.heap.size s.mut w w' ∧ ∃ F K clock' vo, Found p a F K clock' ∧ clock' ≤ clock + 4000 ∧ Src w'.heap.size s p F K clock' a w' ∧ e = .returned vo ∧ QRow w.heap.size w' vo (findTo F a p.n.toNat)

def FRel (s : SP) (p : GP) (F K : Int → Int) (clock : Int) (a : List Int) (w0 : World) (m base : Nat) (v i : Value) (wx : World) : Prop :=
  ∃ k : Nat, k ≤ p.n.toNat ∧ i = .int .i64 ((k : Int) + 1) ∧ QRow base wx v (findTo F a k) ∧ Src m s p F K clock a wx ∧ Lim w0.heap.size s.mut w0 wx ∧ base ≤ wx.heap.size

section
variable {m : Nat} {s : SP} {p : GP} {F K : Int → Int} {clock : Int} {a a0 : List Int} {w : World}

theorem Src.setA {va : Value} {w1 : World} (h : Src m s p F K clock a0 w) (hb : Below w.heap.size w w1) (ho : Own8 w.heap.size w1 va a) : Src w1.heap.size s p F K clock a (w1.setCell ⟨s.b, 10, none⟩ va) ∧ Lim w.heap.size s.mut w (w1.setCell ⟨s.b, 10, none⟩ va) := by
  have ht := h.top
  have hh := h.hi
  have hl := h.lo
  have hn := h.ne1
  have h1 := h.below hb
  obtain ⟨v0, hob, -⟩ := h1.obj
  have hsz : (w1.setCell ⟨s.b, 10, none⟩ va).heap.size = w1.heap.size := by simp [World.setCell]
  have hbs := hb.size
  refine ⟨⟨⟨va, hob.set 10 va, w.heap.size, w1.heap.size, by omega, Nat.le_refl _, fun w' hs hz => ?_⟩, h1.frm.setCell _ _ _, h1.rank.setCell _ _ _, h.ne, h.hi, h.lo, ⟨by omega, by omega⟩, fun w' hs hz => ?_, h.valid, h.rowsH, h.rowsU, h.fitF, h.fitK, h.fitC⟩, ?_⟩
  · obtain ⟨⟨hr, hby⟩, hfit⟩ := ho
    have hrow : w'.ownsRow w.heap.size 57 1 va a.length ((List.range a.length).map fun i => Value.int .i8 (ix a i)) := by
      refine ⟨hr.1, ?_⟩
      rcases hr.2 with hn | ⟨g, cap, cur, rfl, hbg, hgg, rest⟩
      · exact .inl hn
      · have hgl := (Array.getElem?_eq_some_iff.1 hgg).1
        exact .inr ⟨g, cap, cur, rfl, hbg, (hs g hbg hgl (by simp)).trans ((Below.heap_setCell _ _ _ _ (show g ≠ s.b by omega)).trans hgg), rest⟩
    exact (show Own8 w.heap.size w' va a from ⟨⟨hrow, hby⟩, hfit⟩).bytes
  · refine h1.fix w' (fun i i1 i2 i3 => (hs i i1 i2 i3).trans (Below.heap_setCell _ _ _ _ ?_)) (by omega)
    rintro rfl
    exact i3 (by simp [SP.mut])
  · exact (Lim.of_below hb (Nat.le_refl _)).trans (.setCell _ (.inl (by simp [SP.mut])))

theorem FRel.push {base : Nat} {l : List Int} {x : Int} {v v' : Value} {w0 w1 w4 : World} (hs : Src m s p F K clock a w1) (hq : QRow base w1 v l) (hl : Lim w0.heap.size s.mut w0 w1) (hm : m ≤ base) (hw : w0.heap.size ≤ base) (hbw : base ≤ w1.heap.size)
    (hq4 : QRow base w4 v' (l ++ [x])) (hg : (w1.alloc (.cells #[.int .i64 x] 3)).grownBy w4 v.ownBlock) : QRow base w4 v' (l ++ [x]) ∧ Src m s p F K clock a w4 ∧ Lim w0.heap.size s.mut w0 w4 ∧ base ≤ w4.heap.size := by
  have ht := hs.top
  have hsz := hg.size
  simp at hsz
  have hf : ∀ i, v.ownBlock = some i → base ≤ i := fun i e => by
    rcases hq.2 with ⟨rfl, _⟩ | ⟨g, off, cap, cur, rfl, hbg, _⟩
    · cases e
    · simp only [Value.ownBlock, Option.some.injEq] at e; omega
  have hk : ∀ i, i < base → w4.heap[i]? = w1.heap[i]? := fun i hi => (hg.block i (by simp; omega) (fun e => by have := hf i e.symm; omega)).trans (Below.heap_alloc _ _ _ (by omega))
  exact ⟨hq4, hs.keep (by omega) (fun i hi => hk i (by omega)), hl.trans ⟨hg.os, hg.tape, hg.output, by omega, fun i hi _ => hk i (by omega)⟩, by omega⟩

set_option maxHeartbeats 4000000 in
set_option maxRecDepth 100000 in
theorem find_any (h : Src m s p F K clock a0 w) (hi : SInv p F K clock) (hC : clock ≤ 2305843009213693952) (va : Value) (hva : Bytes8 w va a) :
    Calls Try.prog 9 #[.pointer (some ⟨s.b, 0, none⟩), va] w (FindPost s p a clock w) := by
  have h0 := h
  have hv := validP h.valid
  have hvn := hv.n
  obtain ⟨a1, c1, rfl, -, -⟩ := hva.1
  have HVA := Lib.hid hva
  obtain ⟨va0, hob, -⟩ := h.obj
  have ko := hob.cell
  have fo := hob.free
  have zo := hob.lt
  have HS0 := Lib.hid h0
  have HI := Lib.hid hi
  clear h h0 hva hob hi hv
  have qm : ∀ (w : World) (r : Option Nat), (binOp .eql 38 (.map r) (.map none)).run Try.prog w = .ok (.bool r.isNone) w := fun w r => run_eql_map_nil w _ _ _ r Try.underlying38
  go_enter Try.func9, Try.ntmps9
  go_upto_region 4 with (go_at_call 25; refine (clone8_any _ _ _ HVA.out).mono ?_; rintro e w1 ⟨v1, rfl, ho1, hb1⟩; have ko1 := fun o => (bcell hb1 s.b o zo).trans (ko o); have fo1 := fun o => (bfrozen hb1 s.b o zo).trans (fo o); obtain ⟨a2, c2, rfl⟩ := ho1.1.form; have hs1 := HS0.out.setA hb1 ho1; have HS1 := Lib.hid hs1; clear hs1 ho1)
  clear ko1 fo1
  generalize w1.setCell ⟨s.b, 10, none⟩ (.slice a2 a.length c2) = W1 at HS1 ⊢
  go_wp2_with (first
    | (go_at_call 27; refine (gain_any HS2.out HLO.out hC).mono ?_; rintro e w3 ⟨rfl, hl3, F3, K3, clk3, hf3, hc3, hs3⟩; have HL3 := Lib.hid hl3; have HF3 := Lib.hid hf3; have hob3 := hs3.obj; obtain ⟨va3, hob3, -⟩ := hob3; have ko3 := hob3.cell; have HS3 := Lib.hid hs3; clear hob3 hs3 hf3 hl3)
    | (go_at_call 26; refine (lose_any HS1.out.1 HI.out).mono ?_; rintro e w2 ⟨rfl, hl2, F2, K2, hlo2, hs2⟩; have HL2 := Lib.hid hl2; have HLO := Lib.hid hlo2; have HS2 := Lib.hid hs2; clear hl2 hlo2 hs2))
  have HLT : Hid (Lim w.heap.size s.mut w w3) := Lib.hid (by
    have h1 := HS1.out.2
    have h2 := HL2.out
    have h3 := HL3.out
    exact (h1.trans (h2.mono h1.size (fun i hi _ => hi))).trans (h3.mono (Nat.le_trans h1.size h2.size) (fun i hi _ => hi)))
  have hz3 := HLT.out.size
  have hm3 := HS3.out.top.2
  go_loopw [5, 6] (fun v i wx => FRel s p F3 K3 clk3 a w w2.heap.size w3.heap.size v i wx) (fun _ i _ => (p.n + 1 - intOf i).toNat)
  case atStart => exact ⟨0, Nat.zero_le _, rfl, QRow.nil _ _, HS3.out, HLT.out, Nat.le_refl _⟩
  case round =>
    obtain ⟨k, hk, rfl, hq, hs, hl, hzr⟩ := hrel
    have HQ := Lib.hid hq
    have HS := Lib.hid hs
    have HL := Lib.hid hl
    obtain ⟨av, nv, cv, rfl⟩ := hq.form
    obtain ⟨va4, hob, -⟩ := hs.obj
    have ko4 := hob.cell
    have hlen := findTo_len F3 a k
    clear hq hs hl hob
    by_cases hlt : (k : Int) + 1 ≤ p.n
    · have hstep : findTo F3 a (k + 1) = if ¬ 0 < F3 ((k : Int) + 1) ∧ offB a ((k : Int) + 1) = false then findTo F3 a k ++ [(k : Int) + 1] else findTo F3 a k := rfl
      have HN := Lib.hid hstep
      clear hstep
      by_cases hF : 0 < F3 ((k : Int) + 1)
      · have hF' : decide (0 < F3 ((k : Int) + 1)) = true := decide_eq_true hF
        have HN2 : Hid (findTo F3 a (k + 1) = findTo F3 a k) := Lib.hid (by rw [HN.out, if_neg (fun h => h.1 hF)])
        clear hF
        go_wp2_with (go_at_call 28; refine (founded_any HS.out ((k : Int) + 1)).mono ?_; rintro e w1 ⟨rfl, rfl⟩)
        first
          | (go_roundw
             case rel => (exact ⟨k + 1, by omega, by go_num, by rw [HN2.out]; exact HQ.out, HS.out, HL.out, hzr⟩)
             case measure => (simp [intOf]; omega))
          | (refine ⟨?_, ?_⟩
             · (exact ⟨k + 1, by omega, by go_num, by rw [HN2.out]; exact HQ.out, HS.out, HL.out, hzr⟩)
             · (simp [intOf]; omega))
      · have hF' : decide (0 < F3 ((k : Int) + 1)) = false := decide_eq_false hF
        cases ho : offB a ((k : Int) + 1) with
        | true =>
          have HN2 : Hid (findTo F3 a (k + 1) = findTo F3 a k) := Lib.hid (by rw [HN.out, if_neg (fun h => by rw [ho] at h; cases h.2)])
          clear hF
          go_wp2_with (first | (go_at_call 28; refine (founded_any HS.out ((k : Int) + 1)).mono ?_; rintro e w1 ⟨rfl, rfl⟩) | (go_at_call 29; refine (off_any HS.out ((k : Int) + 1) (by omega) (by omega)).mono ?_; rintro e w1 ⟨rfl, rfl⟩))
          first
            | (go_roundw
               case rel => (exact ⟨k + 1, by omega, by go_num, by rw [HN2.out]; exact HQ.out, HS.out, HL.out, hzr⟩)
               case measure => (simp [intOf]; omega))
            | (refine ⟨?_, ?_⟩
               · (exact ⟨k + 1, by omega, by go_num, by rw [HN2.out]; exact HQ.out, HS.out, HL.out, hzr⟩)
               · (simp [intOf]; omega))
        | false =>
          have HN2 : Hid (findTo F3 a (k + 1) = findTo F3 a k ++ [(k : Int) + 1]) := Lib.hid (by rw [HN.out, if_pos ⟨hF, ho⟩])
          have hxI : InI ((k : Int) + 1) := by unfold InI; omega
          have hap : ((findTo F3 a k).length + 1) * 8 ≤ 140737488351232 := by omega
          clear hF
          go_wp2_with (first
            | (go_at_call 28; refine (founded_any HS.out ((k : Int) + 1)).mono ?_; rintro e w1 ⟨rfl, rfl⟩)
            | (go_at_call 29; refine (off_any HS.out ((k : Int) + 1) (by omega) (by omega)).mono ?_; rintro e w1 ⟨rfl, rfl⟩)
            | (at_builtin; refine wpList_appendQ rfl _ _ 23 Try.underlying23 rfl w3.heap.size _ (findTo F3 a k) ((k : Int) + 1) rfl (HQ.out.kept (w' := wr.alloc (.cells #[.int .i64 ((k : Int) + 1)] 3)) (fun i h1 h2 _ => Below.heap_alloc _ _ _ h2)) wr.heap.size 1 rfl (Blk.new wr [.int .i64 ((k : Int) + 1)] _) hxI hap (by simp; omega) ?_; intro v4 w4 hq4 hg4 hl4; have hpp := FRel.push HS.out HQ.out HL.out hm3 hz3 hzr hq4 hg4; have HPP := Lib.hid hpp; obtain ⟨a4, n4, c4, rfl⟩ := hq4.form; clear hpp hq4 hg4 hl4))
          first
            | (go_roundw
               case rel => (exact ⟨k + 1, by omega, by go_num, by rw [HN2.out]; exact HPP.out.1, HPP.out.2.1, HPP.out.2.2.1, HPP.out.2.2.2⟩)
               case measure => (simp [intOf]; omega))
            | (refine ⟨?_, ?_⟩
               · (exact ⟨k + 1, by omega, by go_num, by rw [HN2.out]; exact HPP.out.1, HPP.out.2.1, HPP.out.2.2.1, HPP.out.2.2.2⟩)
               · (simp [intOf]; omega))
    · obtain rfl : k = p.n.toNat := by omega
      go_wp2
      go_ret
      exact ⟨HL.out, F3, K3, clk3, _, HF3.out, hc3, HS.out.mono (by omega) (Nat.le_refl _), rfl, HQ.out.mono hz3⟩

end

end Go.Proofs.Ytdoecchigfdilaa

/- Small laws on Find's result. -/
namespace Go.Proofs.Ytdoecchigfdilaa
open Go.RowKit

theorem findTo_congr {F G : Int → Int} {a : List Int} (h : ∀ x, 0 < F x ↔ 0 < G x) : ∀ n, findTo F a n = findTo G a n
  | 0 => rfl
  | n + 1 => by
    unfold findTo
    rw [findTo_congr h n]
    by_cases e : 0 < F ((n : Int) + 1)
    · rw [if_neg (fun h2 => h2.1 e), if_neg (fun h2 => h2.1 ((h _).1 e))]
    · have e2 : ¬ 0 < G ((n : Int) + 1) := fun h2 => e ((h _).2 h2)
      by_cases o : offB a ((n : Int) + 1) = false
      · rw [if_pos ⟨e, o⟩, if_pos ⟨e2, o⟩]
      · rw [if_neg (fun h2 => o h2.2), if_neg (fun h2 => o h2.2)]

theorem findTo_small (F : Int → Int) (a : List Int) {n : Int} (hn : n ≤ 4000) : (findTo F a n.toNat).length * 8 ≤ 140737488351232 := by
  have := findTo_len F a n.toNat
  omega

end Go.Proofs.Ytdoecchigfdilaa

/- Source; Find and Source of Sources that do not exist. -/
namespace Go.Proofs.Ytdoecchigfdilaa
open Go.RowKit

/-- An object without anything: Sources{}. -/
def Empty (b : Nat) (w : World) : Prop := Blk w b [.int .i64 0, nilS, nilS, nilS, nilS, .map none, .map none, .map none, .map none, .int .i64 0, nilS] 63

set_option maxHeartbeats 1000000 in
theorem find_nil (va : Value) (w : World) : Calls Try.prog 9 #[.pointer none, va] w fun e w' => e = .returned (.slice none 0 0) ∧ w = w' := by
  go_enter Try.func9, Try.ntmps9
  go_wp2
  go_ret
  exact ⟨rfl, rfl⟩

set_option maxHeartbeats 1000000 in
theorem find_empty (b : Nat) (va : Value) (w : World) (h : Empty b w) : Calls Try.prog 9 #[.pointer (some ⟨b, 0, none⟩), va] w fun e w' => e = .returned (.slice none 0 0) ∧ w = w' := by
  have ko := Blk.cell h
  clear h
  have qm : ∀ (w : World) (r : Option Nat), (binOp .eql 38 (.map r) (.map none)).run Try.prog w = .ok (.bool r.isNone) w := fun w r => run_eql_map_nil w _ _ _ r Try.underlying38
  go_enter Try.func9, Try.ntmps9
  go_wp2
  go_ret
  exact ⟨rfl, rfl⟩

set_option maxHeartbeats 1000000 in
theorem source_nil (x : Int) (w : World) : Calls Try.prog 21 #[.pointer none, .int .i64 x] w fun e w' => e = .returned (.tuple #[.int .i64 0, .bool false]) ∧ w = w' := by
  go_enter Try.func21, Try.ntmps21
  go_wp2
  go_ret2
  exact ⟨rfl, rfl⟩

set_option maxHeartbeats 1000000 in
theorem source_empty (b : Nat) (x : Int) (w : World) (h : Empty b w) : Calls Try.prog 21 #[.pointer (some ⟨b, 0, none⟩), .int .i64 x] w fun e w' => e = .returned (.tuple #[.int .i64 0, .bool false]) ∧ w = w' := by
  have ko := Blk.cell h
  clear h
  have qm : ∀ (w : World) (r : Option Nat), (binOp .eql 38 (.map r) (.map none)).run Try.prog w = .ok (.bool r.isNone) w := fun w r => run_eql_map_nil w _ _ _ r Try.underlying38
  go_enter Try.func21, Try.ntmps21
  go_wp2
  go_ret2
  exact ⟨rfl, rfl⟩

section
variable {m : Nat} {s : SP} {p : GP} {F K : Int → Int} {clock : Int} {a : List Int} {w : World}

set_option maxHeartbeats 1000000 in
theorem source_any (h : Src m s p F K clock a w) (x : Int) (hF0 : 0 ≤ F x) :
    Calls Try.prog 21 #[.pointer (some ⟨s.b, 0, none⟩), .int .i64 x] w fun e w' => e = .returned (.tuple #[.int .i64 (if 0 < F x then F x - 1 else 0), .bool (decide (0 < F x))]) ∧ w = w' := by
  have HS := Lib.hid h
  obtain ⟨va, ho, -⟩ := h.obj
  have ko := ho.cell
  have hl := h.lookF x
  have hf := h.fitF x
  unfold InI at hf
  clear h ho
  have qm : ∀ (w : World) (r : Option Nat), (binOp .eql 38 (.map r) (.map none)).run Try.prog w = .ok (.bool r.isNone) w := fun w r => run_eql_map_nil w _ _ _ r Try.underlying38
  by_cases hF : 0 < F x
  · have hF' : decide (0 < F x) = true := decide_eq_true hF
    rw [if_pos hF, hF']
    go_enter Try.func21, Try.ntmps21
    go_wp2_with (go_at_call 28; refine (founded_any HS.out x).mono ?_; rintro e w1 ⟨rfl, rfl⟩)
    go_ret2
    exact ⟨rfl, rfl⟩
  · have hF' : decide (0 < F x) = false := decide_eq_false hF
    rw [if_neg hF, hF']
    go_enter Try.func21, Try.ntmps21
    go_wp2_with (go_at_call 28; refine (founded_any HS.out x).mono ?_; rintro e w1 ⟨rfl, rfl⟩)
    go_ret2
    exact ⟨rfl, rfl⟩

end

end Go.Proofs.Ytdoecchigfdilaa

/- ostlerlaw24.Ints; ostlerlaw33.loop. -/
namespace Go.Proofs.Ytdoecchigfdilaa
open Go.RowKit


set_option maxHeartbeats 1000000 in
theorem intsEq_any (v1 v2 : Value) (l1 l2 : List Int) (w : World) (h1 : Ints w v1 l1) (h2 : Ints w v2 l2) :
    Calls Try.prog 22 #[v1, v2] w fun e w' => e = .returned (.bool (decide (l1 = l2))) ∧ Below w.heap.size w w' := by
  have i1 := h1
  have i2 := h2
  obtain ⟨a1, c1, rfl, -, hl1, -, hc1⟩ := h1.form
  obtain ⟨a2, c2, rfl, -, hl2, -, hc2⟩ := h2.form
  clear h1 h2
  by_cases hlen : l1.length = l2.length
  · have hb0 : ((l1.length : Int) != (l2.length : Int)) = false := by simp [hlen]
    have HL := Lib.hid hlen
    have F1 := Lib.hid i1.2
    have F2 := Lib.hid i2.2
    clear hlen i1 i2
    go_enter Try.func22, Try.ntmps22
    go_wp2
    go_loopw [13] (fun i wx => IntsRel l1 l2 w i wx) (fun i _ => l1.length - (intOf i).toNat)
    case atStart => exact ⟨0, by omega, rfl, fun j hj => absurd hj (Nat.not_lt_zero _), Below.refl _ _⟩
    case round =>
      obtain ⟨k, hk, rfl, hall, hb⟩ := hrel
      have HA := Lib.hid hall
      clear hall
      by_cases hlt : k < l1.length
      · obtain ⟨b1, off1, rfl, hbl1, hcc1⟩ := hc1 (by omega)
        obtain ⟨b2, off2, rfl, hbl2, hcc2⟩ := hc2 (by have := HL.out; omega)
        have hlt2 : k < l2.length := by have := HL.out; omega
        have hlr1 : b1 < wr.heap.size := Nat.lt_of_lt_of_le hbl1 hb.size
        have hlr2 : b2 < wr.heap.size := Nat.lt_of_lt_of_le hbl2 hb.size
        have k1 : ∀ e : Ext wr, e.world.cell? ⟨b1, off1 + k, none⟩ = some (.int .i64 (ix l1 k)) := fun e => (bcell e.below _ _ hlr1).trans ((bcell hb _ _ hbl1).trans (hcc1 k hlt))
        have k2 : ∀ e : Ext wr, e.world.cell? ⟨b2, off2 + k, none⟩ = some (.int .i64 (ix l2 k)) := fun e => (bcell e.below _ _ hlr2).trans ((bcell hb _ _ hbl2).trans (hcc2 k hlt2))
        have f1 := F1.out k
        have f2 := F2.out k
        clear hcc1 hcc2 hc1 hc2
        by_cases he : ix l1 k = ix l2 k
        · have HN := Lib.hid (lt_succ_all HA.out he)
          have he' : (ix l1 k != ix l2 k) = false := by simp [he]
          clear he
          go_wp2
          refine wp_region_ext (by kernel_rfl) (by kernel_rfl) ?_
          repeat (go_big_quiet_step (fail))
          refine wpQuiet_nil ?_
          intro _ hw'
          obtain ⟨⟨w9, hb9⟩, rfl⟩ := hw'
          try dsimp only
          go_wp2
          first
            | (go_roundw
               case rel => (exact ⟨k + 1, by omega, by go_num, HN.out, bon hb hb9⟩)
               case measure => (simp [intOf]; omega))
            | (refine ⟨?_, ?_⟩
               · (exact ⟨k + 1, by omega, by go_num, HN.out, bon hb hb9⟩)
               · (simp [intOf]; omega))
        · have HF : Hid (decide (l1 = l2) = false) := Lib.hid (decide_eq_false (fun e => he (by rw [e])))
          have he' : (ix l1 k != ix l2 k) = true := by simp [he]
          clear he
          go_wp2
          refine wp_region_ext (by kernel_rfl) (by kernel_rfl) ?_
          repeat (go_big_quiet_step (fail))
          refine wpQuiet_nil ?_
          intro _ hw'
          obtain ⟨⟨w9, hb9⟩, rfl⟩ := hw'
          try dsimp only
          go_wp2
          go_ret
          exact ⟨ret_bool HF.out.symm, bon hb hb9⟩
      · have HF : Hid (decide (l1 = l2) = true) := Lib.hid (decide_eq_true (eq_of_ix HL.out (fun j hj => HA.out j (by omega))))
        go_wp2
        go_ret
        exact ⟨ret_bool HF.out.symm, hb⟩
  · have HF : Hid (decide (l1 = l2) = false) := Lib.hid (decide_eq_false (fun e => hlen (by rw [e])))
    have hb0 : ((l1.length : Int) != (l2.length : Int)) = true := by simp; omega
    clear hlen i1 i2
    go_enter Try.func22, Try.ntmps22
    go_wp2
    go_ret
    exact ⟨ret_bool HF.out.symm, Below.refl _ _⟩

def loopP : GP := ⟨3, [⟨#[97]⟩, ⟨#[98]⟩, ⟨#[99]⟩], [], [⟨false, [1], false, 0, [2], []⟩, ⟨false, [2], false, 0, [1], []⟩, ⟨false, [1], false, 0, [3], []⟩, ⟨true, [3], false, 0, [], []⟩], []⟩

theorem loop_valid : validE loopP = 0 := by kernel_rfl

def loopCells (n : Nat) : List Value :=
  [.bool false, .slice (some ⟨n + 2, 0, none⟩) 1 1, .bool false, .int .i64 0, .slice (some ⟨n + 3, 0, none⟩) 1 1, .slice none 0 0,
   .bool false, .slice (some ⟨n + 4, 0, none⟩) 1 1, .bool false, .int .i64 0, .slice (some ⟨n + 5, 0, none⟩) 1 1, .slice none 0 0,
   .bool false, .slice (some ⟨n + 6, 0, none⟩) 1 1, .bool false, .int .i64 0, .slice (some ⟨n + 7, 0, none⟩) 1 1, .slice none 0 0,
   .bool true, .slice (some ⟨n + 8, 0, none⟩) 1 1, .bool false, .int .i64 0, .slice none 0 0, .slice none 0 0]

theorem loop_prog {n : Nat} {w : World} (b1 : Blk w (n + 1) [.string ⟨#[97]⟩, .string ⟨#[98]⟩, .string ⟨#[99]⟩] 9) (b2 : Blk w (n + 2) [.int .i64 1] 3) (b3 : Blk w (n + 3) [.int .i64 2] 3) (b4 : Blk w (n + 4) [.int .i64 2] 3)
    (b5 : Blk w (n + 5) [.int .i64 1] 3) (b6 : Blk w (n + 6) [.int .i64 1] 3) (b7 : Blk w (n + 7) [.int .i64 3] 3) (b8 : Blk w (n + 8) [.int .i64 3] 3) (b9 : Blk w (n + 9) (loopCells n) 41) :
    ProgIs w (.agg #[.int .i64 3, .slice (some ⟨n + 1, 0, none⟩) 3 3, .slice none 0 0, .slice (some ⟨n + 9, 0, none⟩) 4 4, .slice none 0 0]) loopP := by
  have i1 : InI 1 := by unfold InI; omega
  have i2 : InI 2 := by unfold InI; omega
  have i3 : InI 3 := by unfold InI; omega
  have i0 : InI 0 := by unfold InI; omega
  refine ⟨_, _, _, _, rfl, i3, ⟨⟨_, 3, rfl, Nat.le_refl _, by unfold maxLen; omega, by simp [loopP], fun _ => ⟨n + 1, 0, rfl, b1.lt, fun i hi => ?_⟩⟩, fun i => ?_⟩, nil_ints w, ?_, ⟨fun _ => nilS, fun _ => nilS, ⟨none, 0, rfl, Nat.le_refl _, by unfold maxLen; omega, by simp [loopP], fun h => absurd h (by simp [loopP])⟩, fun i hi => absurd hi (by simp [loopP])⟩⟩
  · rw [b1.cell]
    simp only [loopP, List.length_cons, List.length_nil] at hi
    rcases (show i = 0 ∨ i = 1 ∨ i = 2 by omega) with rfl | rfl | rfl <;> rfl
  · have hs : ∀ l : List ByteArray, (∀ x ∈ l, x.size ≤ 1) → (ixS l i).size ≤ 140737488351232 := fun l hl => by
      unfold ixS
      rw [List.getD_eq_getElem?_getD]
      cases h : l[i]? with
      | none => decide
      | some x =>
        have := hl x (List.mem_of_getElem? h)
        simp only [Option.getD_some]
        omega
    refine hs _ (fun x hx => ?_)
    simp only [loopP, List.mem_cons, List.not_mem_nil, or_false] at hx
    rcases hx with rfl | rfl | rfl <;> decide
  · refine ⟨fun i => .slice (some ⟨n + 2 * (i + 1), 0, none⟩) 1 1, fun i => if i < 3 then .slice (some ⟨n + 2 * (i + 1) + 1, 0, none⟩) 1 1 else .slice none 0 0, fun _ => .slice none 0 0, ⟨_, 4, rfl, Nat.le_refl _, by unfold maxLen; omega, by simp [loopP], fun _ => ⟨n + 9, 0, rfl, b9.lt, fun i hi j hj => ?_⟩⟩, fun i hi => ?_⟩
    · rw [b9.cell]
      simp only [loopP, List.length_cons, List.length_nil] at hi
      rcases (show i = 0 ∨ i = 1 ∨ i = 2 ∨ i = 3 by omega) with rfl | rfl | rfl | rfl <;> rcases (show j = 0 ∨ j = 1 ∨ j = 2 ∨ j = 3 ∨ j = 4 ∨ j = 5 by omega) with rfl | rfl | rfl | rfl | rfl | rfl <;> rfl
    · simp only [loopP, List.length_cons, List.length_nil] at hi
      rcases (show i = 0 ∨ i = 1 ∨ i = 2 ∨ i = 3 by omega) with rfl | rfl | rfl | rfl
      · exact ⟨b2.ints1 i1, b3.ints1 i2, nil_ints w, i0⟩
      · exact ⟨b4.ints1 i2, b5.ints1 i1, nil_ints w, i0⟩
      · exact ⟨b6.ints1 i1, b7.ints1 i3, nil_ints w, i0⟩
      · exact ⟨b8.ints1 i3, nil_ints w, nil_ints w, i0⟩

set_option maxHeartbeats 1000000 in
set_option maxRecDepth 100000 in
theorem loop_any (w : World) : Calls Try.prog 20 #[] w fun e w' => ∃ v, e = .returned v ∧ ProgIs w' v loopP ∧ Below w.heap.size w w' := by
  go_enter Try.func20, Try.ntmps20
  go_wp2
  refine bodyPost_ret (v := .agg #[.int .i64 3, .slice (some ⟨w.heap.size + 1, 0, none⟩) 3 3, .slice none 0 0, .slice (some ⟨w.heap.size + 9, 0, none⟩) 4 4, .slice none 0 0]) (by simp [results, Try.results20, go_sem]) rfl ⟨_, rfl, ?_, ?_⟩
  · apply loop_prog (n := w.heap.size) <;> (unfold Blk; simp only [alloc_at]; simp [loopCells])
  · exact bal (bal (bal (bal (bal (bal (bal (bal (bal (bal (Below.refl _ _) _) _) _) _) _) _) _) _) _) _

end Go.Proofs.Ytdoecchigfdilaa

/- What Find and Source yield at the chapter's example. -/
namespace Go.Proofs.Ytdoecchigfdilaa
open Go.RowKit

section
variable {a : List Int} {F K : Int → Int} {clk : Int}

theorem loop_av (a : List Int) (F K : Int → Int) (b : Int) : avB loopP a F K 0 b = (!offB a 4 && holdsB a F K b 2) ∧ avB loopP a F K 1 b = (!offB a 5 && holdsB a F K b 1) ∧ avB loopP a F K 2 b = (!offB a 6 && holdsB a F K b 3) ∧ avB loopP a F K 3 b = !offB a 7 := by
  refine ⟨?_, ?_, ?_, ?_⟩ <;> simp [avB, availB, loopP, ixR, ix, allR, List.range_succ]

theorem loop_head {i x : Int} (h : InHead loopP i x) : (x = 1 ∧ (i = 0 ∨ i = 2)) ∨ (x = 2 ∧ i = 1) ∨ (x = 3 ∧ i = 3) := by
  obtain ⟨h1, h2, h3⟩ := h
  have hl : loopP.rules.length = 4 := rfl
  rw [hl] at h2
  rcases (show i = 0 ∨ i = 1 ∨ i = 2 ∨ i = 3 by omega) with rfl | rfl | rfl | rfl <;> simp [loopP, ixR] at h3 <;> subst h3 <;> simp

theorem offB_long {a : List Int} {n : Nat} (h : a.length < n) : offB a n = false := by
  unfold offB
  have : decide ((n : Int).natAbs ≤ a.length) = false := decide_eq_false (by simp; omega)
  rw [this]; rfl

theorem loop_src (ha : a.length ≤ 3) (h : Found loopP a F K clk) :
    (0 < F 3 ↔ offB a 3 = false) ∧ (0 < F 1 ↔ offB a 1 = false ∧ 0 < F 3) ∧ (0 < F 2 ↔ offB a 2 = false ∧ 0 < F 1) ∧ (0 < F 1 → F 1 = 3) ∧ (0 < F 2 → F 2 = 2) ∧ (0 < F 3 → F 3 = 4) := by
  have hav := loop_av a F K
  have o4 : offB a 4 = false := offB_long (n := 4) (by omega)
  have o5 : offB a 5 = false := offB_long (n := 5) (by omega)
  have o6 : offB a 6 = false := offB_long (n := 6) (by omega)
  have o7 : offB a 7 = false := offB_long (n := 7) (by omega)
  have src : ∀ x, 0 < F x → InHead loopP (F x - 1) x ∧ K x ≤ clk := fun x hx => by
    rcases h.lost.inv x with h1 | h1
    · omega
    · exact ⟨h1.2.2.2.1, h1.2.2.2.2.2⟩
  have f3 : 0 < F 3 → F 3 = 4 := fun hx => by have := loop_head (src 3 hx).1; omega
  have f2 : 0 < F 2 → F 2 = 2 := fun hx => by have := loop_head (src 2 hx).1; omega
  have b2 : 0 < F 2 → 0 < F 1 ∧ K 1 < K 2 := fun hx => by
    have h1 := h.lost.ok 2 hx
    rw [f2 hx, show (2 : Int) - 1 = 1 by omega, (hav _).2.1, o5] at h1
    simp [holdsB] at h1
    exact h1.2
  have f1 : 0 < F 1 → F 1 = 3 ∧ 0 < F 3 := fun hx => by
    have h1 := loop_head (src 1 hx).1
    have h2 := h.lost.ok 1 hx
    rcases (show F 1 = 1 ∨ F 1 = 3 by omega) with e | e
    · rw [e, show (1 : Int) - 1 = 0 by omega, (hav _).1, o4] at h2
      simp [holdsB] at h2
      have := b2 h2.2.1
      omega
    · rw [e, show (3 : Int) - 1 = 2 by omega, (hav _).2.2.1, o6] at h2
      simp [holdsB] at h2
      exact ⟨e, h2.2.1⟩
  have hn : loopP.n = 3 := rfl
  have head : ∀ i x, (x = 1 ∧ i = 2) ∨ (x = 2 ∧ i = 1) ∨ (x = 3 ∧ i = 3) → InHead loopP i x := fun i x hx => by
    rcases hx with ⟨rfl, rfl⟩ | ⟨rfl, rfl⟩ | ⟨rfl, rfl⟩ <;> exact ⟨by omega, by decide, by decide⟩
  have mk : ∀ i x, 1 ≤ x → x ≤ 3 → InHead loopP i x → offB a x = false → avB loopP a F K i (clk + 1) = true → 0 < F x := fun i x h1 h2 h3 h4 h5 => by
    refine Classical.byContradiction fun hn' => ?_
    have := h.cmp x i h1 (by rw [hn]; exact h2) hn' h4 h3
    rw [h5] at this; cases this
  have fnd : ∀ x, 0 < F x → 0 < x → offB a x = false → holdsB a F K (clk + 1) x = true := fun x h1 h2 h3 => by
    have := (src x h1).2
    simp [holdsB, h3, h1]
    omega
  refine ⟨⟨fun hx => h.lost.off 3 hx, fun ho => mk 3 3 (by omega) (by omega) (head _ _ (by omega)) ho (by rw [(hav _).2.2.2, o7]; rfl)⟩, ⟨fun hx => ⟨h.lost.off 1 hx, (f1 hx).2⟩, fun ⟨ho, h3⟩ => mk 2 1 (by omega) (by omega) (head _ _ (by omega)) ho ?_⟩, ⟨fun hx => ⟨h.lost.off 2 hx, (b2 hx).1⟩, fun ⟨ho, h1⟩ => mk 1 2 (by omega) (by omega) (head _ _ (by omega)) ho ?_⟩, fun hx => (f1 hx).1, f2, f3⟩
  · rw [(hav _).2.2.1, o6, fnd 3 h3 (by omega) (h.lost.off 3 h3)]; rfl
  · rw [(hav _).2.1, o5, fnd 1 h1 (by omega) (h.lost.off 1 h1)]; rfl

theorem loop_nil (h : Found loopP [] F K clk) : findTo F [] 3 = [] ∧ F 1 = 3 ∧ F 2 = 2 ∧ F 3 = 4 := by
  obtain ⟨h3, h1, h2, e1, e2, e3⟩ := loop_src (by simp) h
  have o : ∀ n : Nat, 1 ≤ n → offB [] n = false := fun n hn => offB_long (by simp; omega)
  have g3 : 0 < F 3 := h3.2 (o 3 (by omega))
  have g1 : 0 < F 1 := h1.2 ⟨o 1 (by omega), g3⟩
  have g2 : 0 < F 2 := h2.2 ⟨o 2 (by omega), g1⟩
  refine ⟨?_, e1 g1, e2 g2, e3 g3⟩
  simp [findTo, g1, g2, g3]

theorem loop_off3 (h : Found loopP [0, 0, -1] F K clk) : findTo F [0, 0, -1] 3 = [1, 2] := by
  obtain ⟨h3, h1, h2, e1, e2, e3⟩ := loop_src (by simp) h
  have g3 : ¬ 0 < F 3 := fun hx => by have := h3.1 hx; revert this; decide
  have g1 : ¬ 0 < F 1 := fun hx => g3 (h1.1 hx).2
  have g2 : ¬ 0 < F 2 := fun hx => g1 (h2.1 hx).2
  have o1 : offB [0, 0, -1] 1 = false := by decide
  have o2 : offB [0, 0, -1] 2 = false := by decide
  have o3 : offB [0, 0, -1] 3 = true := by decide
  simp [findTo, g1, g2, g3, o1, o2, o3]

theorem loop_off13 (h : Found loopP [-1, 0, -1] F K clk) : findTo F [-1, 0, -1] 3 = [2] := by
  obtain ⟨h3, h1, h2, e1, e2, e3⟩ := loop_src (by simp) h
  have g3 : ¬ 0 < F 3 := fun hx => by have := h3.1 hx; revert this; decide
  have g1 : ¬ 0 < F 1 := fun hx => g3 (h1.1 hx).2
  have g2 : ¬ 0 < F 2 := fun hx => g1 (h2.1 hx).2
  have o1 : offB [-1, 0, -1] 1 = true := by decide
  have o2 : offB [-1, 0, -1] 2 = false := by decide
  have o3 : offB [-1, 0, -1] 3 = true := by decide
  simp [findTo, g1, g2, g3, o1, o2, o3]

end

end Go.Proofs.Ytdoecchigfdilaa

/- ostlerlaw33.awake returns true. -/
namespace Go.Proofs.Ytdoecchigfdilaa
open Go.RowKit

theorem new_valid {v : Value} {p : GP} {w : World} (h : ProgIs w v p) (hv : validE p = 0) :
    Calls Try.prog 8 #[v] w fun e w' => ∃ s : SP, e = .returned (.tuple #[.pointer (some ⟨s.b, 0, none⟩), .int .i64 0]) ∧ Below w.heap.size w w' ∧ s.H = w.heap.size ∧ Src w'.heap.size s p (fun _ => 0) (fun _ => 0) 0 [] w' :=
  (new_any v p w h).mono fun e w' ⟨hb, h2⟩ => by
    rw [if_pos hv] at h2
    obtain ⟨s, h3, h4, h5, h6⟩ := h2
    exact ⟨s, h3, hb, h4, h6⟩

theorem zero_inv (p : GP) : SInv p (fun _ => 0) (fun _ => 0) 0 := fun _ => .inl rfl

theorem findPost_below {s : SP} {p : GP} {a : List Int} {clock : Int} {w w' : World} {e : Ending} {n : Nat} (h : FindPost s p a clock w e w') (hs : n ≤ s.H) (hl : s.H ≤ s.b ∧ s.H ≤ s.bf ∧ s.H ≤ s.bk) (hn : n ≤ w.heap.size) : Below n w w' := by
  refine (h.1.mono hn (fun i hi _ => hi)).below (fun i hi => ?_)
  simp only [SP.mut, List.mem_cons, List.not_mem_nil, or_false] at hi
  omega

theorem find_loop {m : Nat} {s : SP} {F K : Int → Int} {clk : Int} {a0 a : List Int} {w : World} (h : Src m s loopP F K clk a0 w) (hi : SInv loopP F K clk) (hC : clk ≤ 1000000) (va : Value) (hva : Bytes8 w va a) (n : Nat) (hn : n ≤ s.H) :
    Calls Try.prog 9 #[.pointer (some ⟨s.b, 0, none⟩), va] w fun e w' => ∃ F' K' clk' av nv cv, e = .returned (.slice av nv cv) ∧ Found loopP a F' K' clk' ∧ clk' ≤ clk + 4000 ∧ Src w'.heap.size s loopP F' K' clk' a w' ∧
      QRow w.heap.size w' (.slice av nv cv) (findTo F' a 3) ∧ nv = (findTo F' a 3).length ∧ Below n w w' :=
  (find_any h hi (by omega) va hva).mono fun e w' hp => by
    have hb := findPost_below hp hn h.lo (by have := h.top; have := h.lo; have := h.hi; omega)
    obtain ⟨h1, F', K', clk', vo, h2, h3, h4, rfl, h5⟩ := hp
    have h5' : QRow w.heap.size w' vo (findTo F' a 3) := h5
    have hl : ∃ av nv cv, vo = .slice av nv cv ∧ nv = (findTo F' a 3).length := by
      rcases h5'.2 with ⟨e, e2⟩ | ⟨g, off, cap, cur, e, _⟩
      · exact ⟨_, _, _, e, by rw [e2]; rfl⟩
      · exact ⟨_, _, _, e, rfl⟩
    obtain ⟨av, nv, cv, rfl, h6⟩ := hl
    exact ⟨F', K', clk', av, nv, cv, rfl, h2, h3, h4, h5', h6, hb⟩

set_option maxHeartbeats 4000000 in
set_option maxRecDepth 100000 in
theorem awake_any (w : World) : Calls Try.prog 7 #[] w fun e w' => e = .returned (.bool true) ∧ Below w.heap.size w w' := by
  go_enter Try.func7, Try.ntmps7
  go_upto_region 4 with (first
    | (go_at_call 9; refine (find_loop HS2.out (zero_inv _) (by omega) _ (nil_bytes8 _) w.heap.size hH).mono ?_; rintro e w3 ⟨F3, K3, clk3, av3, nv3, cv3, rfl, hf3, hc3, hs3, -, hn3, hb3⟩; rw [(loop_nil hf3).1] at hn3; simp only [List.length_nil] at hn3; subst hn3; have HS3 := Lib.hid hs3; have HF3 := Lib.hid hf3; have HW3 := Lib.hid (HW2.out.trans hb3); clear hs3 hf3 hb3)
    | (go_at_call 8; refine (new_valid HP1.out loop_valid).mono ?_; rintro e w2 ⟨s, rfl, hb2, hsH, hs2⟩; have HW2 := Lib.hid (bon HW1.out hb2); have HS2 := Lib.hid hs2; have hH : w.heap.size ≤ s.H := (by have := HW1.out.size; omega); clear hb2 hs2 hsH)
    | (go_at_call 20; refine (loop_any _).mono ?_; rintro e w1 ⟨v1, rfl, hp1, hb1⟩; obtain ⟨vn, vs, vr, vm, rfl, hp1⟩ := hp1; have HP1 := Lib.hid (show ProgIs w1 (.agg #[.int .i64 loopP.n, vn, vs, vr, vm]) loopP from ⟨_, _, _, _, rfl, hp1⟩); have HW1 := Lib.hid hb1; clear hp1 hb1))
  have hF := loop_nil HF3.out
  have HX : ∀ x f : Int, F3 x = f → 0 < f → Calls Try.prog 21 #[.pointer (some ⟨s.b, 0, none⟩), .int .i64 x] w3 fun e w' => e = .returned (.tuple #[.int .i64 (f - 1), .bool true]) ∧ w3 = w' := fun x f h1 h2 => by
    have := source_any HS3.out x (by omega)
    rw [h1, if_pos h2, decide_eq_true h2] at this
    exact this
  have HX1 := Lib.hid (HX 1 3 hF.2.1 (by omega))
  have HX2 := Lib.hid (HX 2 2 hF.2.2.1 (by omega))
  have HX3 := Lib.hid (HX 3 4 hF.2.2.2 (by omega))
  have hi3 := HF3.out.lost.inv
  have HI3 := Lib.hid hi3
  clear HX hF hi3
  go_upto_region 7 with (first
    | (go_at_call 21; (with_reducible refine (HX3.out).mono ?_); rintro e w4 ⟨rfl, rfl⟩)
    | (go_at_call 21; (with_reducible refine (HX2.out).mono ?_); rintro e w4 ⟨rfl, rfl⟩)
    | (go_at_call 21; (with_reducible refine (HX1.out).mono ?_); rintro e w4 ⟨rfl, rfl⟩))
  have hal := bal (Below.refl w3.heap.size w3) (.cells #[.int .i8 0, .int .i8 0, .int .i8 (-1)] 57)
  have hba : Bytes8 (w3.alloc (.cells #[.int .i8 0, .int .i8 0, .int .i8 (-1)] 57)) (.slice (some ⟨w3.heap.size, 0, none⟩) 3 3) [0, 0, -1] := Blk.bytes8 (l := [0, 0, -1]) (Blk.new w3 [.int .i8 0, .int .i8 0, .int .i8 (-1)] 57) (fit8 (by simp)) (by simp)
  have HA4 := Lib.hid hba
  have HS4 := Lib.hid (HS3.out.below hal)
  have HW4 := Lib.hid (bon HW3.out hal)
  clear hba hal
  have hc3' : clk3 ≤ 1000000 := by omega
  go_wp2_with (first
    | (go_at_call 22; (with_reducible refine (intsEq_any _ _ [2] [2] _ HQ8.out HL8.out).mono ?_); rintro e w9 ⟨rfl, hb9⟩)
    | (go_at_call 9; (with_reducible refine (find_loop HS7.out HI5.out (by omega) _ HA7.out w.heap.size hH).mono ?_); rintro e w8 ⟨F8, K8, clk8, av8, nv8, cv8, rfl, hf8, hc8, hs8, hq8, hn8, hb8⟩; rw [loop_off13 hf8] at hn8 hq8; simp only [List.length_cons, List.length_nil, Nat.zero_add] at hn8; subst hn8; have HQ8 := Lib.hid ((hq8.ints (by simp)).below (bal (Below.refl w8.heap.size w8) (.cells #[.int .i64 2] 3))); have HL8 := Lib.hid ((Blk.new w8 [.int .i64 2] 3).ints1 (by unfold InI; omega)); have HW8 := Lib.hid ((HW7.out.trans hb8).trans (bal (Below.refl w8.heap.size w8) (.cells #[.int .i64 2] 3) |>.mono (by have := HW7.out.size; have := hb8.size; omega))); clear hs8 hq8 hf8 hb8)
    | (go_at_call 22; (with_reducible refine (intsEq_any _ _ [1, 2] [1, 2] _ HQ5.out HL5.out).mono ?_); rintro e w6 ⟨rfl, hb6⟩; have HW6 := Lib.hid (bon HW5.out hb6); have HS6 := Lib.hid (HS5.out.below hb6); have HA7 := Lib.hid (show Bytes8 (w6.alloc (.cells #[.int .i8 (-1), .int .i8 0, .int .i8 (-1)] 57)) (.slice (some ⟨w6.heap.size, 0, none⟩) 3 3) [-1, 0, -1] from Blk.bytes8 (l := [-1, 0, -1]) (Blk.new w6 [.int .i8 (-1), .int .i8 0, .int .i8 (-1)] 57) (fit8 (by simp)) (by simp)); have HS7 := Lib.hid (HS6.out.below (bal (Below.refl w6.heap.size w6) (.cells #[.int .i8 (-1), .int .i8 0, .int .i8 (-1)] 57))); have HW7 := Lib.hid (bon HW6.out (bal (Below.refl w6.heap.size w6) (.cells #[.int .i8 (-1), .int .i8 0, .int .i8 (-1)] 57))); clear hb6)
    | (go_at_call 9; (with_reducible refine (find_loop HS4.out HI3.out hc3' _ HA4.out w.heap.size hH).mono ?_); rintro e w5 ⟨F5, K5, clk5, av5, nv5, cv5, rfl, hf5, hc5, hs5, hq5, hn5, hb5⟩; rw [loop_off3 hf5] at hn5 hq5; simp only [List.length_cons, List.length_nil, Nat.zero_add, Nat.reduceAdd] at hn5; subst hn5; have HI5 := Lib.hid hf5.lost.inv; have hb5a := bal (Below.refl w5.heap.size w5) (.cells #[.int .i64 1, .int .i64 2] 3); have HQ5 := Lib.hid ((hq5.ints (by simp)).below hb5a); have HL5 := Lib.hid (show Ints (w5.alloc (.cells #[.int .i64 1, .int .i64 2] 3)) (.slice (some ⟨w5.heap.size, 0, none⟩) 2 2) [1, 2] from Blk.ints (l := [1, 2]) (Blk.new w5 [.int .i64 1, .int .i64 2] 3) (fitI (by simp [InI])) (by simp)); have HW5 := Lib.hid (bon (HW4.out.trans hb5) hb5a); have HS5 := Lib.hid (hs5.below hb5a); clear hs5 hq5 hf5 hb5 hb5a))
  go_ret
  exact ⟨rfl, bon HW8.out hb9⟩

end Go.Proofs.Ytdoecchigfdilaa

/- How the arguments of the statements read: from the claim's form to this folder's predicates. -/
namespace Go.Proofs.Ytdoecchigfdilaa
open Go.RowKit

theorem list_of {α : Type} (d : α) {Q : Nat → α → Prop} : ∀ (n : Nat), (∀ i, i < n → ∃ x, Q i x) → ∃ l : List α, l.length = n ∧ ∀ i, i < n → Q i (l.getD i d)
  | 0, _ => ⟨[], rfl, fun i hi => absurd hi (Nat.not_lt_zero _)⟩
  | n + 1, h => by
    obtain ⟨l, hl, hq⟩ := list_of d n (fun i hi => h i (by omega))
    obtain ⟨x, hx⟩ := h n (by omega)
    refine ⟨l ++ [x], by simp [hl], fun i hi => ?_⟩
    by_cases e : i < n
    · have := hq i e
      rw [List.getD_eq_getElem?_getD, List.getElem?_append_left (by omega), ← List.getD_eq_getElem?_getD]
      exact this
    · obtain rfl : i = n := by omega
      rw [List.getD_eq_getElem?_getD, List.getElem?_append_right (by omega)]
      simp [hl, hx]

section
variable {H : Type} {enc : TypeId × Value → H} {P : Program} {w : World}

/-- The cells of one value in memory read as a datum whose parts are within the reach. -/
def Reads (enc : TypeId × Value → H) (P : Program) (w : World) (t : TypeId) (cs : List Value) : Prop :=
  ∃ fuel y, DataW.trod enc P w 0 (fun _ => true) true fuel t cs = some y ∧ ∀ m ∈ y.1.weights P t, m ≤ reachBytes

theorem cells_at {a : Addr} {n : Nat} {cs : List Value} (h : w.cells? 0 a n = some cs) : cs.length = n ∧ ∀ j, j < n → w.cell? (a.add j) = cs[j]? := by
  unfold World.cells? at h
  rw [if_pos (Nat.zero_le _)] at h
  refine ⟨by simpa using mapM_some_length h, fun j hj => ?_⟩
  exact mapM_some_get h j j (by simp [hj])

theorem weightsAll_mem {e : TypeId} : ∀ {l : List (DataW H)} {i : Nat} {d : DataW H}, l[i]? = some d → ∀ m ∈ d.weights P e, m ∈ DataW.weightsAll P e l
  | [], i, d, h, m, hm => by simp at h
  | x :: l, 0, d, h, m, hm => by
    simp only [List.getElem?_cons_zero, Option.some.injEq] at h
    subst h
    unfold DataW.weightsAll
    exact List.mem_append.2 (.inl hm)
  | x :: l, i + 1, d, h, m, hm => by
    simp only [List.getElem?_cons_succ] at h
    unfold DataW.weightsAll
    exact List.mem_append.2 (.inr (weightsAll_mem h m hm))

theorem open_slc {t e : TypeId} {sz byt : Nat} {cs : List Value} (ht : P.underlying t = some (.slice e)) (hc : P.cellsOf e = sz) (hs : 1 ≤ sz) (hb : P.bytesOf e = byt) (h : Reads enc P w t cs) :
    ∃ a n cap, cs = [.slice a n cap] ∧ n ≤ cap ∧ cap ≤ maxLen ∧ n * byt ≤ 140737488351232 ∧
      (0 < n → ∃ b off, a = some ⟨b, off, none⟩ ∧ b < w.heap.size ∧ ∀ i, i < n → ∃ cs', cs'.length = sz ∧ (∀ j, j < sz → w.cell? ⟨b, off + i * sz + j, none⟩ = cs'[j]?) ∧ Reads enc P w e cs') := by
  obtain ⟨fuel, y, hy, hw⟩ := h
  rcases DataW.trod_slice ht hy with ⟨rfl, rfl⟩ | ⟨a, len, cap, elems, rest, n, rfl, rfl, rfl, -, hl, hm, hlen, hel, -, -⟩
  · exact ⟨none, 0, 0, rfl, Nat.le_refl _, by unfold maxLen; omega, by omega, fun h => absurd h (Nat.lt_irrefl _)⟩
  · have hws : ∀ m, m ∈ DataW.weights P t (.slice (elems.map (·.1)) (rest.map (·.1))) ↔ m = ((elems.map (·.1)).length + (rest.map (·.1)).length) * P.bytesOf e ∨ m ∈ DataW.weightsAll P e (elems.map (·.1)) ∨ m ∈ DataW.weightsAll P e (rest.map (·.1)) := by
      intro m; simp only [DataW.weights, ht, List.mem_cons, List.mem_append]
    have hbig := hw _ ((hws _).2 (.inl rfl))
    simp only [List.length_map, hlen, hb] at hbig
    have hreach : reachBytes = 140737488351232 := by decide
    refine ⟨some a, len, cap, rfl, hl, hm, ?_, fun hp => ?_⟩
    · have : len * byt ≤ (len + rest.length) * byt := Nat.mul_le_mul_right _ (by omega)
      omega
    · obtain ⟨b, off, spot⟩ := a
      have each : ∀ i, i < len → ∃ cs' y, w.cells? 0 ((⟨b, off, spot⟩ : Addr).add (i * P.cellsOf e)) (P.cellsOf e) = some cs' ∧ DataW.trod enc P w 0 (fun _ => true) true n e cs' = some y ∧ elems[i]? = some y := fun i hi => by
        have h1 := hel i hi
        rw [List.getElem?_eq_getElem (by omega)] at h1
        obtain ⟨cs', h2, h3⟩ := Option.bind_eq_some_iff.1 h1
        exact ⟨cs', _, h2, h3, List.getElem?_eq_getElem (by omega)⟩
      have hspot : spot = none := by
        obtain ⟨cs', y, h1, -, -⟩ := each 0 hp
        rw [Nat.zero_mul, hc] at h1
        obtain ⟨h2, h3⟩ := cells_at h1
        have h4 := h3 0 (by omega)
        rw [List.getElem?_eq_getElem (by omega)] at h4
        simpa [Addr.add] using World.cell?_spot h4
      subst hspot
      have add : ∀ (x : Nat) (o : Nat), ((⟨b, x, none⟩ : Addr).add o) = ⟨b, x + o, none⟩ := fun x o => by unfold Addr.add; split <;> simp_all
      refine ⟨b, off, rfl, ?_, fun i hi => ?_⟩
      · obtain ⟨cs', y, h1, -, -⟩ := each 0 hp
        rw [Nat.zero_mul, hc] at h1
        obtain ⟨h2, h3⟩ := cells_at h1
        have h4 := h3 0 (by omega)
        rw [List.getElem?_eq_getElem (by omega)] at h4
        refine Classical.byContradiction fun hn => ?_
        have : w.heap[b]? = none := Array.getElem?_eq_none (by omega)
        simp [World.cell?, Addr.add, this] at h4
      · obtain ⟨cs', y, h1, h2, h3⟩ := each i hi
        rw [hc] at h1
        obtain ⟨h4, h5⟩ := cells_at h1
        refine ⟨cs', h4, fun j hj => ?_, n, y, h2, fun m hm => hw m ((hws m).2 (.inr (.inl ?_)))⟩
        · have := h5 j hj
          rw [add, add] at this
          exact this
        · exact weightsAll_mem (i := i) (by simp [h3]) m hm

theorem open_int1 {t : TypeId} {k : IntKind} {cs : List Value} (ht : P.underlying t = some (.int k)) (h : Reads enc P w t cs) : ∃ n, cs = [.int k n] ∧ (Lit.int k n).wf = true := by
  obtain ⟨fuel, y, hy, -⟩ := h
  obtain ⟨n, h1, -, h2⟩ := DataW.trod_int ht hy
  exact ⟨n, h1, h2⟩

theorem open_bool1 {t : TypeId} {cs : List Value} (ht : P.underlying t = some .bool) (h : Reads enc P w t cs) : ∃ b, cs = [.bool b] := by
  obtain ⟨fuel, y, hy, -⟩ := h
  obtain ⟨n, h1, -⟩ := DataW.trod_bool ht hy
  exact ⟨n, h1⟩

theorem open_str1 {t : TypeId} {cs : List Value} (ht : P.underlying t = some .string) (h : Reads enc P w t cs) : ∃ s, cs = [.string s] ∧ s.size ≤ 140737488351232 := by
  obtain ⟨fuel, y, hy, hw⟩ := h
  obtain ⟨s, h1, h2, -⟩ := DataW.trod_string ht hy
  subst h2
  refine ⟨s, h1, ?_⟩
  have := hw s.data.toList.length (by simp [DataW.weights])
  have hreach : reachBytes = 140737488351232 := by decide
  rw [hreach] at this
  simpa using this

/-- A field of a struct. -/
theorem open_fld {t : TypeId} {fs : Array Field} {cs : List Value} (ht : P.underlying t = some (.struct fs)) (h : Reads enc P w t cs) {i : Nat} {f : Field} (hf : fs[i]? = some f) : cs.length = P.cellsOf t ∧ Reads enc P w f.type ((cs.drop f.offset).take (P.cellsOf f.type)) := by
  obtain ⟨fuel, y, hy, hw⟩ := h
  obtain ⟨xs, n, rfl, rfl, hl, hx, hel⟩ := DataW.trod_struct ht hy
  refine ⟨hl, n, ?_⟩
  have h1 := hel i f hf
  have hi : i < fs.size := (Array.getElem?_eq_some_iff.1 hf).1
  rw [List.getElem?_eq_getElem (by omega)] at h1
  refine ⟨_, h1, fun m hm => hw m ?_⟩
  simp only [DataW.weights, ht]
  exact DataW.weights_mem_each (j := i) (t := f.type) (d := (xs[i]'(by omega)).1) (by simp [hf]) (by simp [List.getElem?_eq_getElem (show i < xs.length by omega)]) m hm
end

theorem open_at {H : Type} {enc : TypeId × Value → H} {P : Program} {w : World} {t : TypeId} {fs : Array Field} {cs : List Value} (ht : P.underlying t = some (.struct fs)) (h : Reads enc P w t cs) (i ty off n : Nat)
    (hf : (fs[i]?).map (fun f => (f.type, f.offset)) = some (ty, off)) (hn : P.cellsOf ty = n) : Reads enc P w ty ((cs.drop off).take n) := by
  obtain ⟨f, h1, h2⟩ := Option.map_eq_some_iff.1 hf
  simp only [Prod.mk.injEq] at h2
  obtain ⟨rfl, rfl⟩ := h2
  subst hn
  exact (open_fld ht h h1).2

theorem open_len {H : Type} {enc : TypeId × Value → H} {P : Program} {w : World} {t : TypeId} {fs : Array Field} {cs : List Value} (ht : P.underlying t = some (.struct fs)) (h : Reads enc P w t cs) : cs.length = P.cellsOf t := by
  obtain ⟨fuel, y, hy, hw⟩ := h
  obtain ⟨xs, n, rfl, rfl, hl, hx, hel⟩ := DataW.trod_struct ht hy
  exact hl

section
variable {H : Type} {enc : TypeId × Value → H} {w : World}

theorem wf_i64 {n : Int} (h : (Lit.int .i64 n).wf = true) : -9223372036854775808 ≤ n ∧ n ≤ 9223372036854775807 := by
  have := bounds_i64 h; omega
theorem wf_i8 {n : Int} (h : (Lit.int .i8 n).wf = true) : -128 ≤ n ∧ n ≤ 127 := by
  have := bounds_i8 h; omega

theorem open_Ints {cs : List Value} (h : Reads enc Try.prog w 23 cs) : ∃ v l, cs = [v] ∧ Ints w v l := by
  obtain ⟨a, n, cap, rfl, h1, h2, h3, h4⟩ := open_slc (sz := 1) (byt := 8) Try.underlying23 (by kernel_rfl) (Nat.le_refl _) (by kernel_rfl) h
  by_cases hp : 0 < n
  · obtain ⟨b, off, rfl, hb, hel⟩ := h4 hp
    obtain ⟨l, hl, hq⟩ := list_of (0 : Int) (Q := fun i z => w.cell? ⟨b, off + i, none⟩ = some (.int .i64 z) ∧ InI z) n (fun i hi => by
      obtain ⟨cs', h5, h6, h7⟩ := hel i hi
      obtain ⟨z, rfl, hz⟩ := open_int1 Try.underlying3 h7
      have := h6 0 (by omega)
      simp only [Nat.mul_one, Nat.add_zero, List.getElem?_cons_zero] at this
      exact ⟨z, this, wf_i64 hz⟩)
    refine ⟨_, l, rfl, ⟨_, cap, by rw [hl], by omega, h2, by omega, fun _ => ⟨b, off, rfl, hb, fun i hi => (hq i (by omega)).1⟩⟩, fun i => ?_⟩
    by_cases hi : i < n
    · exact (hq i hi).2
    · have : ix l i = 0 := by unfold ix; rw [List.getD_eq_getElem?_getD, List.getElem?_eq_none (by omega)]; rfl
      rw [this]; omega
  · obtain rfl : n = 0 := by omega
    exact ⟨_, [], rfl, ⟨a, cap, rfl, h1, h2, by simp, fun h => absurd h (by simp)⟩, fun i => by simp [ix]⟩

theorem open_Bytes8 {cs : List Value} (h : Reads enc Try.prog w 28 cs) : ∃ v l, cs = [v] ∧ Bytes8 w v l := by
  obtain ⟨a, n, cap, rfl, h1, h2, h3, h4⟩ := open_slc (sz := 1) (byt := 1) Try.underlying28 (by kernel_rfl) (Nat.le_refl _) (by kernel_rfl) h
  by_cases hp : 0 < n
  · obtain ⟨b, off, rfl, hb, hel⟩ := h4 hp
    obtain ⟨l, hl, hq⟩ := list_of (0 : Int) (Q := fun i z => w.cell? ⟨b, off + i, none⟩ = some (.int .i8 z) ∧ -128 ≤ z ∧ z ≤ 127) n (fun i hi => by
      obtain ⟨cs', h5, h6, h7⟩ := hel i hi
      obtain ⟨z, rfl, hz⟩ := open_int1 Try.underlying57 h7
      have := h6 0 (by omega)
      simp only [Nat.mul_one, Nat.add_zero, List.getElem?_cons_zero] at this
      exact ⟨z, this, wf_i8 hz⟩)
    refine ⟨_, l, rfl, ⟨_, cap, by rw [hl], by omega, h2, by omega, fun _ => ⟨b, off, rfl, hb, fun i hi => (hq i (by omega)).1⟩⟩, fun i => ?_⟩
    by_cases hi : i < n
    · exact (hq i hi).2
    · have : ix l i = 0 := by unfold ix; rw [List.getD_eq_getElem?_getD, List.getElem?_eq_none (by omega)]; rfl
      rw [this]; omega
  · obtain rfl : n = 0 := by omega
    exact ⟨_, [], rfl, ⟨a, cap, rfl, h1, h2, by simp, fun h => absurd h (by simp)⟩, fun i => by simp [ix]⟩

theorem open_Strs {cs : List Value} (h : Reads enc Try.prog w 22 cs) : ∃ v l, cs = [v] ∧ Strs w v l := by
  obtain ⟨a, n, cap, rfl, h1, h2, h3, h4⟩ := open_slc (sz := 1) (byt := 16) Try.underlying22 (by kernel_rfl) (Nat.le_refl _) (by kernel_rfl) h
  have hempty : (ixS [] 0).size ≤ 140737488351232 := by decide
  by_cases hp : 0 < n
  · obtain ⟨b, off, rfl, hb, hel⟩ := h4 hp
    obtain ⟨l, hl, hq⟩ := list_of (⟨#[]⟩ : ByteArray) (Q := fun i z => w.cell? ⟨b, off + i, none⟩ = some (.string z) ∧ z.size ≤ 140737488351232) n (fun i hi => by
      obtain ⟨cs', h5, h6, h7⟩ := hel i hi
      obtain ⟨z, rfl, hz⟩ := open_str1 Try.underlying9 h7
      have := h6 0 (by omega)
      simp only [Nat.mul_one, Nat.add_zero, List.getElem?_cons_zero] at this
      exact ⟨z, this, hz⟩)
    refine ⟨_, l, rfl, ⟨_, cap, by rw [hl], by omega, h2, by omega, fun _ => ⟨b, off, rfl, hb, fun i hi => (hq i (by omega)).1⟩⟩, fun i => ?_⟩
    by_cases hi : i < n
    · exact (hq i hi).2
    · have : ixS l i = ⟨#[]⟩ := by unfold ixS; rw [List.getD_eq_getElem?_getD, List.getElem?_eq_none (by omega)]; rfl
      rw [this]; exact hempty
  · obtain rfl : n = 0 := by omega
    exact ⟨_, [], rfl, ⟨a, cap, rfl, h1, h2, by simp, fun h => absurd h (by simp)⟩, fun i => by simpa [ixS] using hempty⟩

theorem six {cs : List Value} (h : cs.length = 6) : ∃ a b c d e f, cs = [a, b, c, d, e, f] := by
  match cs, h with
  | [a, b, c, d, e, f], _ => exact ⟨a, b, c, d, e, f, rfl⟩
theorem five {cs : List Value} (h : cs.length = 5) : ∃ a b c d e, cs = [a, b, c, d, e] := by
  match cs, h with
  | [a, b, c, d, e], _ => exact ⟨a, b, c, d, e, rfl⟩
theorem three {cs : List Value} (h : cs.length = 3) : ∃ a b c, cs = [a, b, c] := by
  match cs, h with
  | [a, b, c], _ => exact ⟨a, b, c, rfl⟩

theorem cellsRule : Try.prog.cellsOf 41 = 6 := by kernel_rfl
theorem cellsMin : Try.prog.cellsOf 51 = 3 := by kernel_rfl
theorem cellsProg : Try.prog.cellsOf 27 = 5 := by kernel_rfl
theorem cellsI : Try.prog.cellsOf 3 = 1 := by kernel_rfl
theorem cellsB : Try.prog.cellsOf 4 = 1 := by kernel_rfl
theorem cellsIs : Try.prog.cellsOf 23 = 1 := by kernel_rfl
theorem cellsSs : Try.prog.cellsOf 22 = 1 := by kernel_rfl
theorem cellsRs : Try.prog.cellsOf 24 = 1 := by kernel_rfl
theorem cellsMs : Try.prog.cellsOf 25 = 1 := by kernel_rfl
theorem cells8s : Try.prog.cellsOf 28 = 1 := by kernel_rfl

theorem open_Rule {cs : List Value} (h : Reads enc Try.prog w 41 cs) : ∃ (r : GR) (vh vb vw : Value), cs = [.bool r.choice, vh, .bool r.sum, .int .i64 r.bound, vb, vw] ∧ RuleSl w r vh vb vw := by
  have hl := open_len Try.underlying41 h
  have f0 := open_at Try.underlying41 h 0 4 0 1 rfl cellsB
  have f1 := open_at Try.underlying41 h 1 23 1 1 rfl cellsIs
  have f2 := open_at Try.underlying41 h 2 4 2 1 rfl cellsB
  have f3 := open_at Try.underlying41 h 3 3 3 1 rfl cellsI
  have f4 := open_at Try.underlying41 h 4 23 4 1 rfl cellsIs
  have f5 := open_at Try.underlying41 h 5 23 5 1 rfl cellsIs
  rw [cellsRule] at hl
  obtain ⟨c0, c1, c2, c3, c4, c5, rfl⟩ := six hl
  simp only [List.drop_succ_cons, List.drop_zero, List.take_succ_cons, List.take_zero] at f0 f1 f2 f3 f4 f5
  obtain ⟨b0, h0⟩ := open_bool1 Try.underlying4 f0
  obtain ⟨v1, l1, h1, g1⟩ := open_Ints f1
  obtain ⟨b2, h2⟩ := open_bool1 Try.underlying4 f2
  obtain ⟨n3, h3, g3⟩ := open_int1 Try.underlying3 f3
  obtain ⟨v4, l4, h4, g4⟩ := open_Ints f4
  obtain ⟨v5, l5, h5, g5⟩ := open_Ints f5
  simp only [List.cons.injEq, and_true] at h0 h1 h2 h3 h4 h5
  subst h0 h1 h2 h3 h4 h5
  exact ⟨⟨b0, l1, b2, n3, l4, l5⟩, _, _, _, rfl, g1, g4, g5, wf_i64 g3⟩

theorem open_Min {cs : List Value} (h : Reads enc Try.prog w 51 cs) : ∃ (m : GM) (vl vw : Value), cs = [.int .i64 m.level, vl, vw] ∧ MinSl w m vl vw := by
  have hl := open_len Try.underlying51 h
  have f0 := open_at Try.underlying51 h 0 3 0 1 rfl cellsI
  have f1 := open_at Try.underlying51 h 1 23 1 1 rfl cellsIs
  have f2 := open_at Try.underlying51 h 2 23 2 1 rfl cellsIs
  rw [cellsMin] at hl
  obtain ⟨c0, c1, c2, rfl⟩ := three hl
  simp only [List.drop_succ_cons, List.drop_zero, List.take_succ_cons, List.take_zero] at f0 f1 f2
  obtain ⟨n0, h0, g0⟩ := open_int1 Try.underlying3 f0
  obtain ⟨v1, l1, h1, g1⟩ := open_Ints f1
  obtain ⟨v2, l2, h2, g2⟩ := open_Ints f2
  simp only [List.cons.injEq, and_true] at h0 h1 h2
  subst h0 h1 h2
  exact ⟨⟨n0, l1, l2⟩, _, _, rfl, g1, g2, wf_i64 g0⟩

theorem open_Rules {cs : List Value} (h : Reads enc Try.prog w 24 cs) : ∃ v l, cs = [v] ∧ RulesIs w v l := by
  obtain ⟨a, n, cap, rfl, h1, h2, h3, h4⟩ := open_slc (sz := 6) (byt := 96) Try.underlying24 cellsRule (by omega) (by kernel_rfl) h
  by_cases hp : 0 < n
  · obtain ⟨b, off, rfl, hb, hel⟩ := h4 hp
    obtain ⟨l, hl, hq⟩ := list_of ((default : GR), nilS, nilS, nilS) (Q := fun i (q : GR × Value × Value × Value) => (∀ j, j < 6 → w.cell? ⟨b, off + i * 6 + j, none⟩ = some (ruleCell q.1 q.2.1 q.2.2.1 q.2.2.2 j)) ∧ RuleSl w q.1 q.2.1 q.2.2.1 q.2.2.2) n (fun i hi => by
      obtain ⟨cs', h5, h6, h7⟩ := hel i hi
      obtain ⟨r, vh, vb, vw, rfl, hr⟩ := open_Rule h7
      refine ⟨(r, vh, vb, vw), fun j hj => ?_, hr⟩
      rw [h6 j hj]
      rcases (show j = 0 ∨ j = 1 ∨ j = 2 ∨ j = 3 ∨ j = 4 ∨ j = 5 by omega) with rfl | rfl | rfl | rfl | rfl | rfl <;> rfl)
    have hix : ∀ i, i < n → ixR (l.map (·.1)) i = (l.getD i (default, nilS, nilS, nilS)).1 := fun i hi => by
      simp [ixR, List.getD_eq_getElem?_getD, List.getElem?_eq_getElem (show i < l.length by omega)]
    refine ⟨_, l.map (·.1), rfl, fun i => (l.getD i (default, nilS, nilS, nilS)).2.1, fun i => (l.getD i (default, nilS, nilS, nilS)).2.2.1, fun i => (l.getD i (default, nilS, nilS, nilS)).2.2.2,
      ⟨_, cap, by rw [List.length_map, hl], by simp [hl]; omega, h2, by simp [hl]; omega, fun _ => ⟨b, off, rfl, hb, fun i hi j hj => ?_⟩⟩, fun i hi => ?_⟩
    · simp only [List.length_map, hl] at hi
      dsimp only
      rw [hix i hi]
      exact (hq i hi).1 j hj
    · simp only [List.length_map, hl] at hi
      rw [hix i hi]
      exact (hq i hi).2
  · obtain rfl : n = 0 := by omega
    exact ⟨_, [], rfl, fun _ => nilS, fun _ => nilS, fun _ => nilS, ⟨a, cap, rfl, h1, h2, by simp, fun h => absurd h (by simp)⟩, fun i hi => absurd hi (by simp)⟩

theorem open_Mins {cs : List Value} (h : Reads enc Try.prog w 25 cs) : ∃ v l, cs = [v] ∧ MinsIs w v l := by
  obtain ⟨a, n, cap, rfl, h1, h2, h3, h4⟩ := open_slc (sz := 3) (byt := 56) Try.underlying25 cellsMin (by omega) (by kernel_rfl) h
  by_cases hp : 0 < n
  · obtain ⟨b, off, rfl, hb, hel⟩ := h4 hp
    obtain ⟨l, hl, hq⟩ := list_of ((default : GM), nilS, nilS) (Q := fun i (q : GM × Value × Value) => (∀ j, j < 3 → w.cell? ⟨b, off + i * 3 + j, none⟩ = some (minCell q.1 q.2.1 q.2.2 j)) ∧ MinSl w q.1 q.2.1 q.2.2) n (fun i hi => by
      obtain ⟨cs', h5, h6, h7⟩ := hel i hi
      obtain ⟨r, vl, vw, rfl, hr⟩ := open_Min h7
      refine ⟨(r, vl, vw), fun j hj => ?_, hr⟩
      rw [h6 j hj]
      rcases (show j = 0 ∨ j = 1 ∨ j = 2 by omega) with rfl | rfl | rfl <;> rfl)
    have hix : ∀ i, i < n → ixM (l.map (·.1)) i = (l.getD i (default, nilS, nilS)).1 := fun i hi => by
      simp [ixM, List.getD_eq_getElem?_getD, List.getElem?_eq_getElem (show i < l.length by omega)]
    refine ⟨_, l.map (·.1), rfl, fun i => (l.getD i (default, nilS, nilS)).2.1, fun i => (l.getD i (default, nilS, nilS)).2.2,
      ⟨_, cap, by rw [List.length_map, hl], by simp [hl]; omega, h2, by simp [hl]; omega, fun _ => ⟨b, off, rfl, hb, fun i hi j hj => ?_⟩⟩, fun i hi => ?_⟩
    · simp only [List.length_map, hl] at hi
      dsimp only
      rw [hix i hi]
      exact (hq i hi).1 j hj
    · simp only [List.length_map, hl] at hi
      rw [hix i hi]
      exact (hq i hi).2
  · obtain rfl : n = 0 := by omega
    exact ⟨_, [], rfl, fun _ => nilS, fun _ => nilS, ⟨a, cap, rfl, h1, h2, by simp, fun h => absurd h (by simp)⟩, fun i hi => absurd hi (by simp)⟩

theorem open_Prog {cs : List Value} (h : Reads enc Try.prog w 27 cs) : ∃ (p : GP) (vn vs vr vm : Value), cs = [.int .i64 p.n, vn, vs, vr, vm] ∧ ProgSl w p vn vs vr vm := by
  have hl := open_len Try.underlying27 h
  have f0 := open_at Try.underlying27 h 0 3 0 1 rfl cellsI
  have f1 := open_at Try.underlying27 h 1 22 1 1 rfl cellsSs
  have f2 := open_at Try.underlying27 h 2 23 2 1 rfl cellsIs
  have f3 := open_at Try.underlying27 h 3 24 3 1 rfl cellsRs
  have f4 := open_at Try.underlying27 h 4 25 4 1 rfl cellsMs
  rw [cellsProg] at hl
  obtain ⟨c0, c1, c2, c3, c4, rfl⟩ := five hl
  simp only [List.drop_succ_cons, List.drop_zero, List.take_succ_cons, List.take_zero] at f0 f1 f2 f3 f4
  obtain ⟨n0, h0, g0⟩ := open_int1 Try.underlying3 f0
  obtain ⟨v1, l1, h1, g1⟩ := open_Strs f1
  obtain ⟨v2, l2, h2, g2⟩ := open_Ints f2
  obtain ⟨v3, l3, h3, g3⟩ := open_Rules f3
  obtain ⟨v4, l4, h4, g4⟩ := open_Mins f4
  simp only [List.cons.injEq, and_true] at h0 h1 h2 h3 h4
  subst h0 h1 h2 h3 h4
  exact ⟨⟨n0, l1, l2, l3, l4⟩, _, _, _, _, rfl, wf_i64 g0, g1, g2, g3, g4⟩

end

end Go.Proofs.Ytdoecchigfdilaa

/- The plain law of chapter 33: availability under a set; the founded set is the least closed one; adding sources round by round. -/
namespace Go.Proofs.Ytdoecchigfdilaa
open Go.RowKit

section mono
variable {p : GP} {a : List Int} {F K F' K' : Int → Int}

theorem avSum_mono {r : GR} {b b' : Int} (hw : ∀ k, k < r.w.length → 1 ≤ ix r.w k) (hl : r.w.length = r.body.length) (h : ∀ l ∈ r.body, holdsB a F K b l = true → holdsB a F' K' b' l = true) : ∀ k, k ≤ r.body.length → avSum r a F K b k ≤ avSum r a F' K' b' k
  | 0, _ => Int.le_refl _
  | k + 1, hk => by
    have h1 := avSum_mono hw hl h k (by omega)
    have h2 := hw k (by omega)
    have h3 := h (ix r.body k) (ix_mem (by omega))
    unfold avSum
    cases h4 : holdsB a F K b (ix r.body k) with
    | true => rw [h3 h4]; simp only [if_true]; omega
    | false =>
      simp only [Bool.false_eq_true, if_false]
      split <;> omega

theorem avB_mono {i : Int} {b b' : Int} (hv : validE p = 0) (hi : 0 ≤ i ∧ i < p.rules.length) (h : ∀ l ∈ (ixR p.rules i.toNat).body, holdsB a F K b l = true → holdsB a F' K' b' l = true) (hav : avB p a F K i b = true) : avB p a F' K' i b' = true := by
  unfold avB availB at *
  simp only [Bool.and_eq_true] at *
  refine ⟨hav.1, ?_⟩
  have h2 := hav.2
  have hil : i.toNat < p.rules.length := by omega
  cases hs : (ixR p.rules i.toNat).sum with
  | true =>
    rw [hs] at h2
    simp only [if_true, decide_eq_true_eq] at h2 ⊢
    obtain ⟨h3, h4, -⟩ := weights_sum ((validP hv).sum i.toNat hil hs)
    have := avSum_mono h4 (by omega) h _ (Nat.le_refl _)
    omega
  | false =>
    rw [hs] at h2
    simp only [Bool.false_eq_true, if_false] at h2 ⊢
    exact allR_true fun k hk => h _ (ix_mem hk) (allR_get h2 k hk)

end mono

/-- Availability under a set, the set as a function that is positive at its elements. -/
def avS (p : GP) (a : List Int) (G : Int → Int) (i : Int) : Bool := avB p a G (fun _ => 0) i 1

theorem holds_set {a : List Int} {G : Int → Int} {l : Int} : holdsB a G (fun _ => 0) 1 l = (!offB a l && (decide (l < 0) || decide (0 < G l))) := by
  unfold holdsB
  have : decide ((0 : Int) < 1) = true := decide_eq_true (by omega)
  rw [this, Bool.and_true]

theorem avS_mono {p : GP} {a : List Int} {G G' : Int → Int} {i : Int} (hv : validE p = 0) (hi : 0 ≤ i ∧ i < p.rules.length) (h : ∀ l, 0 < G l → 0 < G' l) (hav : avS p a G i = true) : avS p a G' i = true :=
  avB_mono hv hi (fun l _ hl => by
    rw [holds_set] at *
    simp only [Bool.and_eq_true, Bool.or_eq_true, decide_eq_true_eq] at *
    exact ⟨hl.1, hl.2.imp id (h l)⟩) hav

theorem avS_of {p : GP} {a : List Int} {F K : Int → Int} {i b clock : Int} (h : SInv p F K clock) (hb : clock < b) : avB p a F K i b = avS p a F i := by
  refine avB_congr fun l hl => ?_
  rw [holds_set]
  unfold holdsB
  rcases h l with h1 | h1
  · rw [h1]; simp
  · have h2 : decide (K l < b) = true := decide_eq_true (by omega)
    rw [h2, Bool.and_true]

/-- A set (positive at its elements) that holds whatever has an available rule. -/
def Closed (p : GP) (a : List Int) (G : Int → Int) : Prop :=
  ∀ x i, 1 ≤ x → x ≤ p.n → offB a x = false → InHead p i x → avS p a G i = true → 0 < G x

structure IsFnd (p : GP) (a : List Int) (G : Int → Int) : Prop where
  dom : ∀ x, 0 < G x → 1 ≤ x ∧ x ≤ p.n
  closed : Closed p a G
  least : ∀ T, Closed p a T → ∀ x, 0 < G x → 0 < T x

theorem IsFnd.unique {p : GP} {a : List Int} {G G' : Int → Int} (h : IsFnd p a G) (h' : IsFnd p a G') (x : Int) : 0 < G x ↔ 0 < G' x :=
  ⟨h.least G' h'.closed x, h'.least G h.closed x⟩

theorem Found.fnd {p : GP} {a : List Int} {F K : Int → Int} {clock : Int} (hv : validE p = 0) (h : Found p a F K clock) : IsFnd p a F := by
  have hinv := h.lost.inv
  have src : ∀ x, 0 < F x → 1 ≤ x ∧ x ≤ p.n ∧ InHead p (F x - 1) x ∧ 1 ≤ K x ∧ K x ≤ clock := fun x hx => by
    rcases hinv x with h1 | h1
    · omega
    · exact h1.2
  refine ⟨fun x hx => ⟨(src x hx).1, (src x hx).2.1⟩, fun x i h1 h2 h3 h4 h5 => ?_, fun T hT => ?_⟩
  · refine Classical.byContradiction fun hn => ?_
    have := h.cmp x i h1 h2 hn h3 h4
    rw [avS_of hinv (by omega), h5] at this
    cases this
  · have : ∀ n : Nat, ∀ x, 0 < F x → K x ≤ n → 0 < T x := by
      intro n
      induction n with
      | zero => intro x hx hk; have := src x hx; omega
      | succ n ih =>
        intro x hx hk
        obtain ⟨h1, h2, h3, h4, h5⟩ := src x hx
        refine hT x (F x - 1) h1 h2 (h.lost.off x hx) h3 (avB_mono hv ⟨h3.1, h3.2.1⟩ (fun l hl hh => ?_) (h.lost.ok x hx))
        rw [holds_set]
        unfold holdsB at hh
        simp only [Bool.and_eq_true, Bool.or_eq_true, decide_eq_true_eq] at hh ⊢
        exact ⟨hh.1, hh.2.imp id (fun h6 => ih l h6.1 (by omega))⟩
    intro x hx
    exact this (K x).toNat x hx (by omega)

/-! ### Adding sources, round by round -/
/-- The founded atoms of 1 .. n that have not been added. -/
def openC (F G : Int → Int) : Nat → Nat
  | 0 => 0
  | n + 1 => openC F G n + if 0 < F ((n : Int) + 1) ∧ ¬ 0 < G ((n : Int) + 1) then 1 else 0

theorem openC_le (F G : Int → Int) : ∀ n, openC F G n ≤ n
  | 0 => Nat.le_refl _
  | n + 1 => by have := openC_le F G n; unfold openC; split <;> omega

theorem openC_mono {F G G' : Int → Int} (h : ∀ x, 0 < G x → 0 < G' x) : ∀ n, openC F G' n ≤ openC F G n
  | 0 => Nat.le_refl _
  | n + 1 => by
    have h1 := openC_mono (F := F) h n
    have h2 := h ((n : Int) + 1)
    unfold openC
    split
    · rename_i h3; rw [if_pos ⟨h3.1, fun h4 => h3.2 (h2 h4)⟩]; omega
    · omega

theorem openC_less {F G G' : Int → Int} (h : ∀ x, 0 < G x → 0 < G' x) {y : Int} (hF : 0 < F y) (hG : ¬ 0 < G y) (hG' : 0 < G' y) : ∀ n : Nat, 1 ≤ y → y ≤ n → openC F G' n < openC F G n
  | 0, h1, h2 => by omega
  | n + 1, h1, h2 => by
    unfold openC
    by_cases e : y = (n : Int) + 1
    · subst e
      have := openC_mono (F := F) h n
      rw [if_neg (fun h3 => h3.2 hG'), if_pos ⟨hF, hG⟩]
      omega
    · have h3 := openC_less h hF hG hG' n h1 (by omega)
      have h2 := h ((n : Int) + 1)
      split
      · rename_i h3; rw [if_pos ⟨h3.1, fun h4 => h3.2 (h2 h4)⟩]; omega
      · omega

theorem openC_zero {F G : Int → Int} : ∀ n : Nat, openC F G n = 0 → ∀ x : Int, 1 ≤ x → x ≤ n → 0 < F x → 0 < G x
  | 0, _, x, h1, h2, _ => by omega
  | n + 1, h, x, h1, h2, h3 => by
    unfold openC at h
    by_cases e : x = (n : Int) + 1
    · subst e
      refine Classical.byContradiction fun h4 => ?_
      rw [if_pos ⟨h3, h4⟩] at h; omega
    · exact openC_zero n (by omega) x h1 (by omega) h3

theorem openC_pos {F G : Int → Int} : ∀ n : Nat, 0 < openC F G n → ∃ x : Int, 1 ≤ x ∧ x ≤ n ∧ 0 < F x ∧ ¬ 0 < G x
  | 0, h => by unfold openC at h; omega
  | n + 1, h => by
    unfold openC at h
    by_cases e : 0 < F ((n : Int) + 1) ∧ ¬ 0 < G ((n : Int) + 1)
    · exact ⟨(n : Int) + 1, by omega, by omega, e.1, e.2⟩
    · rw [if_neg e] at h
      obtain ⟨x, h1, h2, h3⟩ := openC_pos n h
      exact ⟨x, h1, by omega, h3⟩

/-- One of least rank. -/
theorem least_rank {K : Int → Int} {Q : Int → Prop} : ∀ (n : Nat) (x : Int), Q x → (K x).toNat ≤ n → ∃ y, Q y ∧ ∀ z, Q z → K z < K y → K y ≤ 0
  | 0, x, h, hk => ⟨x, h, fun z hz hlt => by omega⟩
  | n + 1, x, h, hk => by
    by_cases e : ∃ z, Q z ∧ K z < K x ∧ 0 < K x
    · obtain ⟨z, h1, h2, h3⟩ := e
      exact least_rank n z h1 (by omega)
    · exact ⟨x, h, fun z hz hlt => by
        refine Classical.byContradiction fun h1 => e ⟨z, hz, hlt, by omega⟩⟩

/-- A round over 1 .. n, under way at x; G0 what stood at its start. -/
structure Round (p : GP) (F K G0 G : Int → Int) (x : Int) : Prop where
  one : ∀ y, G y = 0 ∨ (G y = 1 ∧ 0 < F y)
  up : ∀ y, 0 < G0 y → 0 < G y
  done : ∀ y, 1 ≤ y → y < x → 0 < F y → (∀ l, 0 < F l → K l < K y → 0 < G0 l) → 0 < G y

section round
variable {p : GP} {a : List Int} {F K G0 G : Int → Int} {clock x : Int}

theorem Round.start (h : ∀ y, G y = 0 ∨ (G y = 1 ∧ 0 < F y)) : Round p F K G G 1 := ⟨h, fun _ h => h, fun y h1 h2 => by omega⟩

theorem Round.add (h : Round p F K G0 G x) (hF : 0 < F x) : Round p F K G0 (setI G x 1) (x + 1) := by
  refine ⟨fun y => ?_, fun y hy => ?_, fun y h1 h2 h3 h4 => ?_⟩ <;> by_cases e : y = x
  · subst e; rw [setI_eq]; exact .inr ⟨rfl, hF⟩
  · rw [setI_ne G _ e]; exact h.one y
  · subst e; rw [setI_eq]; omega
  · rw [setI_ne G _ e]; exact h.up y hy
  · subst e; rw [setI_eq]; omega
  · rw [setI_ne G _ e]; exact h.done y h1 (by omega) h3 h4

theorem Round.skip (hv : validE p = 0) (hl : Lost p a F K clock) (h : Round p F K G0 G x) (hs : ¬ 0 < F x ∨ 0 < G x ∨ avS p a G (F x - 1) = false) : Round p F K G0 G (x + 1) := by
  refine ⟨h.one, h.up, fun y h1 h2 h3 h4 => ?_⟩
  by_cases e : y = x
  · subst e
    rcases hs with h5 | h5 | h5
    · exact absurd h3 h5
    · exact h5
    · have hin : InHead p (F y - 1) y := by
        rcases hl.inv y with h6 | h6
        · omega
        · exact h6.2.2.2.1
      have : avS p a G (F y - 1) = true := avB_mono hv ⟨hin.1, hin.2.1⟩ (fun l hl hh => by
        rw [holds_set]
        unfold holdsB at hh
        simp only [Bool.and_eq_true, Bool.or_eq_true, decide_eq_true_eq] at hh ⊢
        exact ⟨hh.1, hh.2.imp id (fun h6 => h.up l (h4 l h6.1 h6.2))⟩) (hl.ok y h3)
      rw [h5] at this; cases this
  · exact h.done y h1 (by omega) h3 h4

theorem Round.finish (hl : Lost p a F K clock) (hn : 0 ≤ p.n) (h : Round p F K G0 G (p.n + 1)) (h0 : openC F G0 p.n.toNat ≠ 0) : openC F G p.n.toNat < openC F G0 p.n.toNat := by
  obtain ⟨x, h1, h2, h3, h4⟩ := openC_pos p.n.toNat (Nat.pos_of_ne_zero h0)
  have src : ∀ x, 0 < F x → 1 ≤ x ∧ x ≤ p.n ∧ 1 ≤ K x := fun x hx => by
    rcases hl.inv x with h1 | h1
    · omega
    · exact ⟨h1.2.1, h1.2.2.1, h1.2.2.2.2.1⟩
  obtain ⟨y, ⟨h5, h6⟩, h7⟩ := least_rank (K := K) (Q := fun z => 0 < F z ∧ ¬ 0 < G0 z) (K x).toNat x ⟨h3, h4⟩ (Nat.le_refl _)
  have hy := src y h5
  refine openC_less h.up h5 h6 (h.done y hy.1 (by omega) h5 (fun l h8 h9 => ?_)) _ hy.1 (by omega)
  refine Classical.byContradiction fun h10 => ?_
  have := h7 l ⟨h8, h10⟩ h9
  omega

end round

end Go.Proofs.Ytdoecchigfdilaa

/- The arguments of a statement, opened. -/
namespace Go.Proofs.Ytdoecchigfdilaa
open Go.RowKit Go.WideShapes

section
variable {H : Type} {enc : TypeId × Value → H} {w : World} {r : Reach} {b0 : Nat} {v : Value} {d : DataW H} {q : List MemPlace}

theorem arg_reads {P : Program} {t : TypeId} (h : DataW.Trod enc P w 0 (fun _ => true) true t v d q) (hw : ∀ m ∈ d.weights P t, m ≤ reachBytes) : Reads enc P w t v.cells.toList := by
  obtain ⟨fuel, hf⟩ := h
  exact ⟨fuel, _, hf, hw⟩

set_option maxRecDepth 100000 in
theorem arg_Prog (hv : Value.okWide Try.prog w r b0 27 v) (h : DataW.Trod enc Try.prog w 0 (fun _ => true) true 27 v d q) (hw : ∀ m ∈ d.weights Try.prog 27, m ≤ reachBytes) : ∃ p, ProgIs w v p := by
  obtain ⟨cs, rfl, -⟩ := okWide_struct Try.underlying27 hv
  have hr := arg_reads h hw
  obtain ⟨p, vn, vs, vr, vm, he, hp⟩ := open_Prog hr
  refine ⟨p, vn, vs, vr, vm, ?_, hp⟩
  have : cs.toList = [.int .i64 p.n, vn, vs, vr, vm] := by simpa [Value.cells] using he
  congr 1
  exact Array.toList_inj.1 this

set_option maxRecDepth 100000 in
theorem arg_Bytes8 (hv : Value.okWide Try.prog w r b0 28 v) (h : DataW.Trod enc Try.prog w 0 (fun _ => true) true 28 v d q) (hw : ∀ m ∈ d.weights Try.prog 28, m ≤ reachBytes) : ∃ l, Bytes8 w v l := by
  obtain ⟨a, n, c, rfl⟩ := okWide_slice Try.underlying28 hv
  have hr := arg_reads h hw
  obtain ⟨v', l, he, hp⟩ := open_Bytes8 hr
  have : Value.slice a n c = v' := by simpa [Value.cells] using he
  subst this
  exact ⟨l, hp⟩
end

end Go.Proofs.Ytdoecchigfdilaa

/- ostlerlaw26.Few. -/
namespace Go.Proofs.Ytdoecchigfdilaa
open Go.RowKit

def fewAt (r : GR) : Bool := decide (r.head.length ≤ 10) && decide (r.body.length ≤ 20) && decide (r.w.length ≤ 20)
def fewB (p : GP) : Bool := decide (p.n ≤ 10) && decide (p.names.length ≤ 10) && decide (p.rules.length ≤ 12) && allR p.rules.length (fun i => fewAt (ixR p.rules i))

def FewRel (p : GP) (w : World) (i : Value) (wx : World) : Prop := ∃ k : Nat, k ≤ p.rules.length ∧ i = .int .i64 k ∧ (∀ j, j < k → fewAt (ixR p.rules j) = true) ∧ Below w.heap.size w wx

set_option maxHeartbeats 1000000 in
set_option maxRecDepth 100000 in
theorem few_any (v : Value) (p : GP) (w : World) (h : ProgIs w v p) :
    Calls Try.prog 5 #[v] w fun e w' => e = .returned (.bool (fewB p)) ∧ Below w.heap.size w w' := by
  obtain ⟨vn, vs, vr, vm, rfl, hn, hnames, hshown, hrules, hmin⟩ := h
  obtain ⟨a0, c0, rfl, -, hl0, -⟩ := hnames.form
  obtain ⟨a1, c1, rfl, -, hl1, -, hcell⟩ := hrules.form
  unfold InI at hn
  have hal := bal (Below.refl w.heap.size w) (.cells #[.int .i64 p.n, .slice a0 p.names.length c0, vs, .slice a1 p.rules.length c1, vm] 27)
  clear hnames hshown hrules hmin
  by_cases h1 : p.n ≤ 10
  · by_cases h2 : p.names.length ≤ 10
    · by_cases h3 : p.rules.length ≤ 12
      · have HF : Hid (fewB p = allR p.rules.length (fun i => fewAt (ixR p.rules i))) := Lib.hid (by simp [fewB, h1, h2, h3])
        go_enter Try.func5, Try.ntmps5
        go_wp2
        have hbk : Blk (w.alloc (.cells #[.int .i64 p.n, .slice a0 p.names.length c0, vs, .slice a1 p.rules.length c1, vm] 27)) w.heap.size _ _ := Blk.new w [.int .i64 p.n, .slice a0 p.names.length c0, vs, .slice a1 p.rules.length c1, vm] _
        generalize w.alloc (.cells #[.int .i64 p.n, .slice a0 p.names.length c0, vs, .slice a1 p.rules.length c1, vm] 27) = W at hal hbk ⊢
        go_loopw [23] (fun i wx => FewRel p w i wx) (fun i _ => p.rules.length - (intOf i).toNat)
        case atStart => exact ⟨0, by omega, rfl, fun j hj => absurd hj (Nat.not_lt_zero _), hal⟩
        case round =>
          obtain ⟨k, hk, rfl, hall, hb⟩ := hrel
          have HA := Lib.hid hall
          clear hall
          by_cases hlt : k < p.rules.length
          · obtain ⟨b, off, rfl, hbl, hc⟩ := hcell (by omega)
            obtain ⟨vh, vb, vw, ⟨r0, r1, r2, r3, r4, r5⟩, hsl⟩ := hc k hlt
            have HR : Hid (fewAt (ixR p.rules k) = (decide ((ixR p.rules k).head.length ≤ 10) && decide ((ixR p.rules k).body.length ≤ 20) && decide ((ixR p.rules k).w.length ≤ 20))) := Lib.hid rfl
            have HB : Hid (fewAt (ixR p.rules k) = false → fewB p = false) := Lib.hid (fun h => by rw [HF.out]; exact allR_false k hlt h)
            have HG : Hid (fewAt (ixR p.rules k) = true → ∀ j, j < k + 1 → fewAt (ixR p.rules j) = true) := Lib.hid (fun h => lt_succ_all HA.out h)
            generalize ixR p.rules k = r at *
            obtain ⟨x1, y1, rfl, -, g1, -, -⟩ := hsl.head.form
            obtain ⟨x2, y2, rfl, -, g2, -, -⟩ := hsl.body.form
            obtain ⟨x3, y3, rfl, -, g3, -, -⟩ := hsl.wts.form
            have kk := bcell hb b
            have q0 := (kk _ hbl).trans r0
            have q1 := (kk _ hbl).trans r1
            have q2 := (kk _ hbl).trans r2
            have q3 := (kk _ hbl).trans r3
            have q4 := (kk _ hbl).trans r4
            have q5 := (kk _ hbl).trans r5
            clear kk r0 r1 r2 r3 r4 r5 hc hcell hsl
            by_cases e1 : r.head.length ≤ 10
            · by_cases e2 : r.body.length ≤ 20
              · by_cases e3 : r.w.length ≤ 20
                · have HN := Lib.hid (HG.out (by rw [HR.out]; simp [e1, e2, e3]))
                  go_wp2
                  first
                    | (go_roundw
                       case rel => (exact ⟨k + 1, by omega, by go_num, HN.out, bal hb _⟩)
                       case measure => (simp [intOf]; omega))
                    | (refine ⟨?_, ?_⟩
                       · (exact ⟨k + 1, by omega, by go_num, HN.out, bal hb _⟩)
                       · (simp [intOf]; omega))
                · have HN := Lib.hid (HB.out (by rw [HR.out]; simp [e3]))
                  go_wp2
                  go_ret
                  exact ⟨ret_bool HN.out.symm, bal hb _⟩
              · have HN := Lib.hid (HB.out (by rw [HR.out]; simp [e2]))
                go_wp2
                go_ret
                exact ⟨ret_bool HN.out.symm, bal hb _⟩
            · have HN := Lib.hid (HB.out (by rw [HR.out]; simp [e1]))
              go_wp2
              go_ret
              exact ⟨ret_bool HN.out.symm, bal hb _⟩
          · have HN : Hid (fewB p = true) := Lib.hid (by rw [HF.out]; exact allR_true (fun j hj => HA.out j (by omega)))
            go_wp2
            go_ret
            exact ⟨ret_bool HN.out.symm, hb⟩
      · have HF : Hid (fewB p = false) := Lib.hid (by simp [fewB, h3])
        go_enter Try.func5, Try.ntmps5
        go_wp2
        go_ret
        exact ⟨ret_bool HF.out.symm, hal⟩
    · have HF : Hid (fewB p = false) := Lib.hid (by simp [fewB, h2])
      go_enter Try.func5, Try.ntmps5
      go_wp2
      go_ret
      exact ⟨ret_bool HF.out.symm, hal⟩
  · have HF : Hid (fewB p = false) := Lib.hid (by simp [fewB, h1])
    go_enter Try.func5, Try.ntmps5
    go_wp2
    go_ret
    exact ⟨ret_bool HF.out.symm, hal⟩

end Go.Proofs.Ytdoecchigfdilaa

/- 'append(v, x...)' of a whole slice of ints to a row of the call's own. -/
namespace Go.Proofs.Ytdoecchigfdilaa
open Go.RowKit


theorem map_ix (m : List Int) (j : Nat) (hj : j < m.length) : (m.map (Value.int .i64))[j]? = some (.int .i64 (ix m j)) := by
  simp [ix, List.getD_eq_getElem?_getD, List.getElem?_eq_getElem hj]

theorem Ints.src {w : World} {x : Value} {m : List Int} (h : Ints w x m) : _root_.Go.Src Try.prog 1 23 x m.length (m.map (Value.int .i64)) w := by
  obtain ⟨a, c, rfl, -, -, -, hc⟩ := h.form
  cases m with
  | nil =>
    cases a with
    | none => exact _root_.Go.Src.ofNil w Try.underlying23 c
    | some a => exact _root_.Go.Src.ofSlice w Try.underlying23 a 0 c [] (by simp) (fun j u hu => by simp at hu) (fun u hu => by simp at hu)
  | cons y m =>
    obtain ⟨b, off, rfl, -, hcc⟩ := hc (by simp)
    refine _root_.Go.Src.ofSlice w Try.underlying23 ⟨b, off, none⟩ _ c ((y :: m).map (Value.int .i64)) (by simp) (fun j u hu => ?_) (fun u hu => ?_)
    · have hj : j < (y :: m).length := by have := (List.getElem?_eq_some_iff.1 hu).1; simpa using this
      have hadd : (⟨b, off, none⟩ : Addr).add j = ⟨b, off + j, none⟩ := by unfold Addr.add; split <;> simp_all
      rw [hadd, hcc j hj, ← hu, map_ix _ j hj]
    · obtain ⟨z, -, rfl⟩ := List.mem_map.1 hu
      simp [Value.oneCell']

theorem ix_app (l m : List Int) (i : Nat) : ix (l ++ m) i = if i < l.length then ix l i else ix m (i - l.length) := by
  split
  · rename_i h; simp [ix, List.getElem?_append_left h]
  · rename_i h; simp [ix, List.getElem?_append_right (Nat.le_of_not_lt h)]

theorem Fits.app {l m : List Int} (h : Fits l) (k : Fits m) : Fits (l ++ m) := fun i => by
  rw [ix_app]; split
  · exact h i
  · exact k _

theorem run_appendQs (base : Nat) (T ty : TypeId) (hT : Try.prog.underlying T = some (.slice 3)) (hTT : T = 23) (w : World) (v : Value) (l : List Int) (h : QRow base w v l) (x : Value) (m : List Int) (hx : Ints w x m)
    (hlen : (l.length + m.length) * 8 ≤ 140737488351232) (hbase : base ≤ w.heap.size) :
    ∃ v' w', (Builtin.append_ #[T, T] ty #[v, x]).run Try.prog w = .ok v' w' ∧ QRow base w' v' (l ++ m) ∧ w.grownBy w' v.ownBlock ∧ (v'.ownBlock = v.ownBlock ∨ v'.ownBlock = some w.heap.size) := by
  subst hTT
  have hi := infoI
  obtain ⟨i, hi, he⟩ := Option.map_eq_some_iff.1 hi
  simp only [Prod.mk.injEq] at he
  obtain ⟨hz, hs, hby⟩ := he
  have hsrc := hx.src
  have hsrc' : _root_.Go.Src Try.prog i.size 23 x m.length (m.map (Value.int .i64)) w := by rw [hs]; exact hsrc
  have hfit := h.1.app hx.2
  have zc : ∀ n, (Builtin.zeroCells (Value.int .i64 0).cells n).size = n := fun n => by simp [Builtin.zeroCells, Value.cells]
  have grow : ∀ (cur : Array Value) (cap : Nat), cur.size = cap → cap ≤ maxLen → l.length + m.length ≤ cap → (∀ i, i < l.length → cur[i]? = some (.int .i64 (ix l i))) → (∀ i, i < m.length → cur[l.length + i]? = some (.int .i64 (ix m i))) →
      QRow base (w.drew.alloc (.cells cur 3)) (.slice (some ⟨w.heap.size, 0, none⟩) (l.length + m.length) cap) (l ++ m) ∧ ∀ row, w.grownBy (w.drew.alloc (.cells cur 3)) row := by
    intro cur cap h1 h2 h3 h4 h5
    refine ⟨⟨hfit, .inr ⟨w.heap.size, 0, cap, cur, by simp, hbase, heap_alloc_new w.drew _, by simpa using h3, h2, by omega, fun j hj => ?_⟩⟩, fun row => ⟨rfl, rfl, rfl, by simp, fun k hk _ => Below.heap_alloc w.drew _ _ hk⟩⟩
    simp only [List.length_append] at hj
    rw [ix_app, Nat.zero_add]
    split
    · rename_i hlt; exact h4 j hlt
    · have := h5 (j - l.length) (by omega)
      rw [show l.length + (j - l.length) = j by omega] at this
      exact this
  have growAt : ∀ (b0 : Option Addr) (cap : Nat) (olds : List Value), (Builtin.firstCells i.size l.length (.slice b0 l.length cap)).run Try.prog w.drew = .ok olds.toArray w.drew → olds = (List.range l.length).map (fun i => Value.int .i64 (ix l i)) → cap < l.length + m.length →
      ∃ v' w', (Builtin.append_ #[23, 23] ty #[.slice b0 l.length cap, x]).run Try.prog w = .ok v' w' ∧ QRow base w' v' (l ++ m) ∧ (∀ row, w.grownBy w' row) ∧ v'.ownBlock = some w.heap.size := by
    intro b0 cap olds hold holds hlt
    have hr := run_append_grow_src (P := Try.prog) w 23 23 ty 3 i _ hT hi hz b0 l.length cap olds hold x m.length _ hsrc' hlt (by omega) (growslice_fits hlt (by rw [hby]; omega))
    have hge := grownCap_ge w (l.length + m.length) cap 3
    have hlo : olds.length = l.length := by rw [holds]; simp
    obtain ⟨q1, q2⟩ := grow ((olds ++ m.map (Value.int .i64)).toArray ++ Builtin.zeroCells (Value.int .i64 0).cells (grownCap w (l.length + m.length) cap 3 - (l.length + m.length))) (grownCap w (l.length + m.length) cap 3)
      (by simp only [Array.size_append, List.size_toArray, List.length_append, List.length_map, hlo, zc]; omega) (grownCap_le_maxLen w (l.length + m.length) cap 3 (by unfold maxLen; omega)) hge
      (fun j hj => by
        rw [Array.getElem?_append_left (by simp; omega), List.getElem?_toArray, List.getElem?_append_left (by omega), holds]
        simp [hj])
      (fun j hj => by
        rw [Array.getElem?_append_left (by simp; omega), List.getElem?_toArray, List.getElem?_append_right (by omega), hlo, Nat.add_sub_cancel_left]
        exact map_ix m j hj)
    exact ⟨_, _, hr, q1, q2, rfl⟩
  rcases h.2 with ⟨rfl, rfl⟩ | ⟨g, off, cap, cur, rfl, hbg, hg, hnc, hcm, hcs, hcell⟩
  · cases m with
    | nil =>
      refine ⟨.slice none 0 0, w, ?_, QRow.nil _ _, ⟨rfl, rfl, rfl, Nat.le_refl _, fun _ _ _ => rfl⟩, .inl rfl⟩
      have h0 : (Builtin.firstCells i.size 0 x).run Try.prog w = .ok #[] w := hsrc'.cells
      simp [Builtin.append_, run_underlying hT, sizeOf, typeInfo, hi, hsrc'.len, h0]
    | cons y m =>
      obtain ⟨v', w', h1, h2, h3, h4⟩ := growAt none 0 [] (by exact run_firstCells_none (P := Try.prog) w.drew i.size 0 0 0) rfl (by simp)
      exact ⟨v', w', h1, h2, h3 _, .inr h4⟩
  · by_cases hroom : l.length + m.length ≤ cap
    · have hst := run_storeCells_at Try.prog g (off + l.length) 3 (m.map (Value.int .i64)) 0 cur w hg (by simp only [List.length_map]; omega) (by simp [Value.oneCell'])
      simp only [Nat.add_zero, List.length_map] at hst
      refine ⟨.slice (some ⟨g, off, none⟩) (l.length + m.length) cap, w.setRow g (cur.toList.take (off + l.length) ++ m.map (Value.int .i64) ++ cur.toList.drop (off + l.length + m.length)).toArray, ?_, ⟨hfit, .inr ⟨g, off, cap, (cur.toList.take (off + l.length) ++ m.map (Value.int .i64) ++ cur.toList.drop (off + l.length + m.length)).toArray, by simp, hbg, setRow_heap w g cur _ 3 _ hg, by simpa using hroom, hcm, ?_, fun j hj => ?_⟩⟩, ⟨rfl, rfl, rfl, by simp, fun k _ hk => setRow_other w g k _ (fun e => hk (by simp [Value.ownBlock, e]))⟩, .inl rfl⟩
      · have hadd : (⟨g, off, none⟩ : Addr).add (l.length * i.size) = ⟨g, off + l.length, none⟩ := by rw [hs]; unfold Addr.add; split <;> simp_all
        simp [Builtin.append_, run_underlying hT, sizeOf, typeInfo, hi, hsrc'.len, hroom, hsrc'.cells, hadd, hst]
      · simp only [List.size_toArray, List.length_append, List.length_take, List.length_drop, Array.length_toList, List.length_map]
        omega
      · simp only [List.length_append] at hj
        rw [ix_app]
        split
        · rename_i hlt
          rw [← hcell j hlt]
          simp only [List.getElem?_toArray, List.append_assoc]
          rw [List.getElem?_append_left (by simp; omega), List.getElem?_take_of_lt (by omega)]
          simp
        · simp only [List.getElem?_toArray, List.append_assoc]
          rw [List.getElem?_append_right (by simp; omega)]
          have : min (off + l.length) cur.size = off + l.length := by omega
          simp only [List.length_take, Array.length_toList, this]
          rw [List.getElem?_append_left (by simp; omega), show off + j - (off + l.length) = j - l.length by omega]
          exact map_ix m _ (by omega)
    · have holds : ∀ j u, ((List.range l.length).map (fun i => Value.int .i64 (ix l i)))[j]? = some u → w.drew.cell? ((⟨g, off, none⟩ : Addr).add j) = some u := by
        intro j u hu
        have hadd : (⟨g, off, none⟩ : Addr).add j = ⟨g, off + j, none⟩ := by unfold Addr.add; split <;> simp_all
        have hj : j < l.length := by
          have := (List.getElem?_eq_some_iff.1 hu).1; simpa using this
        rw [hadd]
        show w.cell? _ = _
        rw [cell_of_row w g (off + j) cur 3 (0, 0) hg, hcell j hj]
        simpa [hj] using hu
      obtain ⟨v', w', h1, h2, h3, h4⟩ := growAt (some ⟨g, off, none⟩) cap _ (run_firstCells_some (P := Try.prog) w.drew i.size l.length ⟨g, off, none⟩ l.length cap _ (by rw [hs]; simp) holds) rfl (by omega)
      exact ⟨v', w', h1, h2, h3 _, .inr h4⟩

theorem wpList_appendQs {ops : Array Oper} {rest : List Oper} {o : Oper} {a : Act} {w : World} {Q : Exit → Act → World → Prop} (hgd : o.guard = none) (s x : Operand)
    (ho : o.op = .call { callee := .builtin .append, args := #[s, x], argTypes := #[23, 23] }) (base : Nat) (v y : Value) (l m : List Int) (hs : a.eval s = v) (hx : a.eval x = y) (h : QRow base w v l) (hy : Ints w y m)
    (hlen : (l.length + m.length) * 8 ≤ 140737488351232) (hbase : base ≤ w.heap.size)
    (hK : ∀ v' w', QRow base w' v' (l ++ m) → w.grownBy w' v.ownBlock → (v'.ownBlock = v.ownBlock ∨ v'.ownBlock = some w.heap.size) → wpList Try.prog ops Q rest (a.put o.dst v') w') : wpList Try.prog ops Q (o :: rest) a w :=
  wpList_plain hgd fun _ hK' => by
    obtain ⟨v', w', hr, h2, h3, h4⟩ := run_appendQs base 23 o.type Try.underlying23 rfl w v l h y m hy hlen hbase
    unfold Oper.wp execOp
    simp only [ho, resolve, invoke, builtin, Sem.run_bind, Sem.run_pure, Result.andThen_ok, List.map_toArray, List.map_cons, List.map_nil, hs, hx, hr]
    exact hK' _ _ (hK v' w' h2 h3 h4)

/-- An empty slice that a literal has made. -/
theorem QRow.empty {base b : Nat} {w : World} (h : w.heap[b]? = some (.cells #[] 3 (0, 0))) (hb : base ≤ b) : QRow base w (.slice (some ⟨b, 0, none⟩) 0 0) [] :=
  ⟨fun i => by simp [ix], .inr ⟨b, 0, 0, #[], rfl, hb, h, by simp, by unfold maxLen; omega, by simp, fun i hi => by simp at hi⟩⟩

end Go.Proofs.Ytdoecchigfdilaa

/- The copy of a rule, of a list of rules. -/
namespace Go.Proofs.Ytdoecchigfdilaa
open Go.RowKit
attribute [local go_sem] memUpon

/-- 'append([]int{}, x...)': a row of the call's own; nothing that was there turns. -/
theorem run_appendE (ty : TypeId) (w : World) (g0 : Nat) (hg : w.heap[g0]? = some (.cells #[] 3 (0, 0))) (x : Value) (m : List Int) (hx : Ints w x m) :
    ∃ a c w', (Builtin.append_ #[23, 23] ty #[.slice (some ⟨g0, 0, none⟩) 0 0, x]).run Try.prog w = .ok (.slice a m.length c) w' ∧ QRow g0 w' (.slice a m.length c) m ∧ Below w.heap.size w w' := by
  have hlt : g0 < w.heap.size := (Array.getElem?_eq_some_iff.1 hg).1
  have hl : m.length * 8 ≤ 140737488351232 := by
    obtain ⟨⟨a, c, e, h1, h2, h3, -⟩, -⟩ := hx
    omega
  have hi := infoI
  obtain ⟨i, hi, he⟩ := Option.map_eq_some_iff.1 hi
  simp only [Prod.mk.injEq] at he
  obtain ⟨hz, hs, hby⟩ := he
  have hsrc : _root_.Go.Src Try.prog i.size 23 x m.length (m.map (Value.int .i64)) w := by rw [hs]; exact hx.src
  have hT := Try.underlying23
  have zc : ∀ n, (Builtin.zeroCells (Value.int .i64 0).cells n).size = n := fun n => by simp [Builtin.zeroCells, Value.cells]
  cases m with
  | nil =>
    refine ⟨some ⟨g0, 0, none⟩, 0, w, ?_, QRow.empty hg (Nat.le_refl _), Below.refl _ _⟩
    have h0 : (Builtin.firstCells i.size 0 x).run Try.prog w = .ok #[] w := hsrc.cells
    simp [Builtin.append_, run_underlying hT, sizeOf, typeInfo, hi, hsrc.len, h0, storeCells]
  | cons y m =>
    have hr := run_append_grow_src (P := Try.prog) w 23 23 ty 3 i _ hT hi hz (some ⟨g0, 0, none⟩) 0 0 [] (run_firstCells_some (P := Try.prog) w.drew i.size 0 ⟨g0, 0, none⟩ 0 0 [] (by simp) (fun j u hu => by simp at hu)) x (y :: m).length _ hsrc (by simp) (by omega) (growslice_fits (by simp) (by rw [hby]; omega))
    have hge := grownCap_ge w (0 + (y :: m).length) 0 3
    simp only [Nat.zero_add, List.nil_append] at hr hge
    refine ⟨_, _, _, hr, ⟨hx.2, .inr ⟨w.heap.size, 0, _, _, rfl, by omega, heap_alloc_new w.drew _, hge, grownCap_le_maxLen w (y :: m).length 0 3 (by unfold maxLen; omega), ?_, fun j hj => ?_⟩⟩, ((Below.refl _ _).drew).alloc (Nat.le_refl _) _⟩
    · simp only [Array.size_append, List.size_toArray, List.length_map, zc]; omega
    · rw [Nat.zero_add, Array.getElem?_append_left (by simpa using hj), List.getElem?_toArray]
      exact map_ix _ j hj

theorem memUpon_append {o : Oper} {a : Act} {w w' : World} {Post : Value → World → Prop} (s x : Operand) {v y v' : Value}
    (ho : o.op = .call { callee := .builtin .append, args := #[s, x], argTypes := #[23, 23] }) (hs : a.eval s = v) (hx : a.eval x = y) (hr : (Builtin.append_ #[23, 23] o.type #[v, y]).run Try.prog w = .ok v' w') (hP : Post v' w') :
    memUpon Try.prog Post ((execOp a.eval o).run Try.prog w) := by
  unfold execOp
  simp only [ho, resolve, invoke, builtin, Sem.run_bind, Sem.run_pure, Result.andThen_ok, List.map_toArray, List.map_cons, List.map_nil, hs, hx, hr]
  exact hP

theorem few_small {p : GP} (h : fewB p = true) : ∀ r ∈ p.rules, r.head.length * 8 ≤ 140737488351232 ∧ r.body.length * 8 ≤ 140737488351232 ∧ r.w.length * 8 ≤ 140737488351232 := fun r hr => by
  unfold fewB at h
  simp only [Bool.and_eq_true] at h
  obtain ⟨i, hi, e⟩ := List.mem_iff_getElem.1 hr
  have h1 := allR_get h.2 i hi
  have e2 : ixR p.rules i = r := by simp [ixR, List.getD_eq_getElem?_getD, List.getElem?_eq_getElem hi, e]
  rw [e2] at h1
  simp only [fewAt, Bool.and_eq_true, decide_eq_true_eq] at h1
  omega

/-! ### A program's rules, copied -/
/-- The rules in v, of the call's own. -/
structure Mine (B : Nat) (v : Value) (L : List RQ) (w : World) : Prop where
  row : w.ownsRow B 41 6 v L.length (L.flatMap cells6)
  each : ∀ q ∈ L, QRow B w q.2.1 q.1.head ∧ QRow B w q.2.2.1 q.1.body ∧ QRow B w q.2.2.2 q.1.w ∧ InI q.1.bound

theorem Mine.nil (B : Nat) (w : World) : Mine B (.slice none 0 0) [] w := ⟨⟨by simp, .inl ⟨rfl, rfl⟩⟩, fun q hq => by simp at hq⟩

section
variable {B n : Nat} {xs : List Value} {v : Value} {w w' : World} {L : List RQ}

/-- The row of rules may turn: a row of ints does not. -/
theorem QRow.rowKept {u : Value} {l : List Int} (h : QRow B w u l) (hr : w.ownsRow B 41 6 v n xs) (hg : w.grownBy w' v.ownBlock) : QRow B w' u l := by
  refine h.kept fun i hi hi2 hu => hg.block i hi2 (fun e => ?_)
  rcases hr.2 with ⟨rfl, _⟩ | ⟨g, cap, cur, rfl, hb, hgg, _⟩
  · cases e
  · simp only [Value.ownBlock, Option.some.injEq] at e
    subst e
    rcases h.2 with ⟨rfl, _⟩ | ⟨g', off, cap', cur', rfl, _, hgg', _⟩
    · cases hu
    · simp only [Value.ownBlock, Option.some.injEq] at hu
      subst hu
      rw [hgg'] at hgg
      have := Option.some.inj hgg
      injection this with _ h2 _
      revert h2; decide

theorem Mine.below (h : Mine B v L w) (hb : Below w.heap.size w w') : Mine B v L w' :=
  ⟨rowBelow h.row hb, fun q hq => let ⟨h1, h2, h3, h4⟩ := h.each q hq; ⟨h1.below hb, h2.below hb, h3.below hb, h4⟩⟩

theorem Mine.push {g cap : Nat} {q : RQ} (h : Mine B v L w) (hq : QRow B w q.2.1 q.1.head ∧ QRow B w q.2.2.1 q.1.body ∧ QRow B w q.2.2.2 q.1.w ∧ InI q.1.bound)
    (hown : w'.ownsRow B 41 6 (.slice (some ⟨g, 0, none⟩) (L.length + 1) cap) (L.length + 1) (L.flatMap cells6 ++ cells6 q)) (hg : w.grownBy w' v.ownBlock) : Mine B (.slice (some ⟨g, 0, none⟩) (L.length + 1) cap) (L ++ [q]) w' := by
  refine ⟨by simpa using hown, fun q' hq' => ?_⟩
  simp only [List.mem_append, List.mem_singleton] at hq'
  rcases hq' with hq' | rfl
  · obtain ⟨h1, h2, h3, h4⟩ := h.each q' hq'
    exact ⟨h1.rowKept h.row hg, h2.rowKept h.row hg, h3.rowKept h.row hg, h4⟩
  · obtain ⟨h1, h2, h3, h4⟩ := hq
    exact ⟨h1.rowKept h.row hg, h2.rowKept h.row hg, h3.rowKept h.row hg, h4⟩

/-- A store elsewhere. -/
theorem Mine.setCell (h : Mine B v L w) {b : Nat} (o : Nat) (u : Value) (hb : b < B) : Mine B v L (w.setCell ⟨b, o, none⟩ u) := by
  have hk : ∀ i, B ≤ i → (w.setCell ⟨b, o, none⟩ u).heap[i]? = w.heap[i]? := fun i hi => Below.heap_setCell _ _ _ _ (show i ≠ b by omega)
  refine ⟨⟨h.row.1, ?_⟩, fun q hq => let ⟨h1, h2, h3, h4⟩ := h.each q hq; ⟨h1.kept fun i hi _ _ => hk i hi, h2.kept fun i hi _ _ => hk i hi, h3.kept fun i hi _ _ => hk i hi, h4⟩⟩
  rcases h.row.2 with hn | ⟨g, cap, cur, e, hbg, hgg, rest⟩
  · exact .inl hn
  · exact .inr ⟨g, cap, cur, e, hbg, (hk g hbg).trans hgg, rest⟩

theorem Mine.rules (h : Mine B v L w) (l : List GR) (hl : L.map (·.1) = l) (hfit : L.length * 88 ≤ 140737488351232) (hlen : ∀ q ∈ L, q.1.head.length * 8 ≤ 140737488351232 ∧ q.1.body.length * 8 ≤ 140737488351232 ∧ q.1.w.length * 8 ≤ 140737488351232) :
    RulesAt w v l (fun i => (L.getD i default).2.1) (fun i => (L.getD i default).2.2.1) (fun i => (L.getD i default).2.2.2) := by
  have hlen' : l.length = L.length := by rw [← hl]; simp
  have hq : ∀ i, i < l.length → L.getD i default ∈ L ∧ (L.getD i default).1 = ixR l i := fun i hi => by
    have hi' : i < L.length := by omega
    have e : L.getD i default = L[i] := by simp [List.getD_eq_getElem?_getD, List.getElem?_eq_getElem hi']
    rw [e]
    refine ⟨List.getElem_mem hi', ?_⟩
    subst hl
    simp [ixR, List.getD_eq_getElem?_getD, List.getElem?_eq_getElem hi']
  refine ⟨?_, fun i hi => ?_⟩
  · rw [hlen']
    rcases h.row.2 with ⟨rfl, h0⟩ | ⟨g, cap, cur, rfl, hb, hg, hn, hm, hs, hx⟩
    · exact ⟨none, 0, by rw [h0], by omega, by unfold maxLen; omega, by omega, fun hp => by omega⟩
    · refine ⟨_, cap, rfl, hn, hm, hfit, fun _ => ⟨g, 0, rfl, (Array.getElem?_eq_some_iff.1 hg).1, fun i hi j hj => ?_⟩⟩
      have h6 := flat6 L i j hi hj
      rw [← hx, List.getElem?_take_of_lt (by omega)] at h6
      rw [cell_of_row w g (0 + i * 6 + j) cur _ (0, 0) hg, Nat.zero_add]
      have e2 := (hq i (by omega)).2
      dsimp only
      rw [← e2]
      have : cur[i * 6 + j]? = cur.toList[i * 6 + j]? := by simp
      rw [this, h6]
      rcases (show j = 0 ∨ j = 1 ∨ j = 2 ∨ j = 3 ∨ j = 4 ∨ j = 5 by omega) with rfl | rfl | rfl | rfl | rfl | rfl <;> rfl
  · obtain ⟨hm, e⟩ := hq i hi
    obtain ⟨h1, h2, h3, h4⟩ := h.each _ hm
    obtain ⟨g1, g2, g3⟩ := hlen _ hm
    rw [← e]
    exact ⟨h1.ints g1, h2.ints g2, h3.ints g3, h4⟩
end

/-! ### Writing into the copy -/
/-- The copy's rules may be written into: the row of rules in block b; the bodies. Blocks B .. H - 1. -/
structure MW (B H : Nat) (ar : Option Addr) (n : Nat) (L : List RQ) (w : World) : Prop where
  row : 0 < n → ∃ b off cur, ar = some ⟨b, off, none⟩ ∧ B ≤ b ∧ b < H ∧ Blk w b cur 41 ∧ ∀ i, i < n → cur[off + i * 6 + 4]? = some (L.getD i default).2.2.1 ∧ ∃ bd : Int, cur[off + i * 6 + 3]? = some (.int .i64 bd)
  body : ∀ i, i < n → ∃ a c, (L.getD i default).2.2.1 = .slice a (L.getD i default).1.body.length c ∧ (0 < (L.getD i default).1.body.length → ∃ g off cur, a = some ⟨g, off, none⟩ ∧ B ≤ g ∧ g < H ∧ Blk w g cur 3 ∧ off + (L.getD i default).1.body.length ≤ cur.length)

theorem Blk.tyNe {w : World} {b g : Nat} {c d : List Value} (h : Blk w b c 41) (k : Blk w g d 3) : b ≠ g := by
  rintro rfl
  unfold Blk at h k
  rw [h] at k
  have := Option.some.inj k
  injection this with _ h2 _
  revert h2; decide

section
variable {B H n : Nat} {ar : Option Addr} {L : List RQ} {w w' : World}

theorem MW.below (h : MW B H ar n L w) (hb : Below w.heap.size w w') : MW B H ar n L w' :=
  ⟨fun h0 => let ⟨b, off, cur, e, h1, h2, h3, h4⟩ := h.row h0; ⟨b, off, cur, e, h1, h2, h3.below hb, h4⟩,
   fun i hi => let ⟨a, c, e, k⟩ := h.body i hi; ⟨a, c, e, fun h0 => let ⟨g, off, cur, e, h1, h2, h3, h4⟩ := k h0; ⟨g, off, cur, e, h1, h2, h3.below hb, h4⟩⟩⟩

theorem Mine.mw {v : Value} {nr cr : Nat} (h : Mine B v L w) (hv : v = .slice ar nr cr) : MW B w.heap.size ar L.length L w := by
  subst hv
  refine ⟨fun h0 => ?_, fun i hi => ?_⟩
  · rcases h.row.2 with ⟨e, e2⟩ | ⟨g, cap, cur, e, hb, hg, hn, hm, hs, hx⟩
    · omega
    · simp only [Value.slice.injEq] at e
      refine ⟨g, 0, cur.toList, e.1, hb, (Array.getElem?_eq_some_iff.1 hg).1, by unfold Blk; simpa using hg, fun i hi => ?_⟩
      have h6 : ∀ j, j < 6 → cur.toList[0 + i * 6 + j]? = (cells6 (L.getD i default))[j]? := fun j hj => by
        have h6 := flat6 L i j hi hj
        rw [← hx, List.getElem?_take_of_lt (by omega)] at h6
        rw [Nat.zero_add, h6]
      exact ⟨(h6 4 (by omega)).trans rfl, (L.getD i default).1.bound, (h6 3 (by omega)).trans rfl⟩
  · have e : L.getD i default = L[i] := by simp [List.getD_eq_getElem?_getD, List.getElem?_eq_getElem hi]
    obtain ⟨-, hq, -, -⟩ := h.each _ (show L.getD i default ∈ L by rw [e]; exact List.getElem_mem hi)
    rcases hq.2 with ⟨e, e2⟩ | ⟨g, off, cap, cur, e, hb, hg, hn, hm, hs, hx⟩
    · exact ⟨none, 0, by rw [e, e2]; rfl, fun h0 => by rw [e2] at h0; simp at h0⟩
    · exact ⟨_, _, e, fun _ => ⟨g, off, cur.toList, rfl, hb, (Array.getElem?_eq_some_iff.1 hg).1, by unfold Blk; simpa using hg, by rw [Array.length_toList]; omega⟩⟩

theorem MW.setBody (h : MW B H ar n L w) {g : Nat} {d : List Value} (hg : Blk w g d 3) (o : Nat) (u : Value) : MW B H ar n L (w.setCell ⟨g, o, none⟩ u) := by
  refine ⟨fun h0 => ?_, fun i hi => ?_⟩
  · obtain ⟨b, off, cur, e, h1, h2, h3, h4⟩ := h.row h0
    exact ⟨b, off, cur, e, h1, h2, h3.setOther o u (h3.tyNe hg), h4⟩
  · obtain ⟨a, c, e, k⟩ := h.body i hi
    refine ⟨a, c, e, fun h0 => ?_⟩
    obtain ⟨g', off, cur, e, h1, h2, h3, h4⟩ := k h0
    by_cases hgg : g' = g
    · subst hgg
      exact ⟨g', off, cur.set o u, e, h1, h2, h3.set o u, by simpa using h4⟩
    · exact ⟨g', off, cur, e, h1, h2, h3.setOther o u hgg, h4⟩

theorem MW.setBound (h : MW B H ar n L w) {b off i : Nat} (har : ar = some ⟨b, off, none⟩) (hi : i < n) (x : Int) : MW B H ar n L (w.setCell ⟨b, off + i * 6 + 3, none⟩ (.int .i64 x)) := by
  obtain ⟨b', off', cur, e, h1, h2, h3, h4⟩ := h.row (by omega)
  rw [har] at e
  simp only [Option.some.injEq, Addr.mk.injEq, and_true] at e
  obtain ⟨rfl, rfl⟩ := e
  refine ⟨fun _ => ⟨b, off, cur.set (off + i * 6 + 3) (.int .i64 x), har, h1, h2, h3.set _ _, fun j hj => ?_⟩, fun j hj => ?_⟩
  · obtain ⟨k1, bd, k2⟩ := h4 j hj
    refine ⟨by rw [List.getElem?_set_ne (by omega)]; exact k1, ?_⟩
    by_cases hij : i = j
    · subst hij
      exact ⟨x, by rw [List.getElem?_set_self (List.getElem?_eq_some_iff.1 k2).1]⟩
    · exact ⟨bd, by rw [List.getElem?_set_ne (by omega)]; exact k2⟩
  · obtain ⟨a, c, e, k⟩ := h.body j hj
    refine ⟨a, c, e, fun h0 => ?_⟩
    obtain ⟨g', off', cur', e, k1, k2, k3, k4⟩ := k h0
    exact ⟨g', off', cur', e, k1, k2, k3.setOther _ _ (fun e => h3.tyNe k3 e.symm), k4⟩

theorem MW.at {b off k nb c : Nat} {a : Option Addr} (h : MW B H (some ⟨b, off, none⟩) n L w) (hk : k < n) (e : (L.getD k default).2.2.1 = .slice a nb c) :
    (∃ cur, Blk w b cur 41 ∧ B ≤ b ∧ b < H) ∧ w.cell? ⟨b, off + k * 6 + 4, none⟩ = some (.slice a nb c) ∧ (∃ bd : Int, w.cell? ⟨b, off + k * 6 + 3, none⟩ = some (.int .i64 bd)) ∧ w.frozen? ⟨b, off + k * 6 + 3, none⟩ = false ∧
      (0 < nb → ∃ g off2 cur2, a = some ⟨g, off2, none⟩ ∧ B ≤ g ∧ g < H ∧ Blk w g cur2 3 ∧ off2 + nb ≤ cur2.length) := by
  obtain ⟨b', off', cur, e1, h1, h2, h3, h4⟩ := h.row (by omega)
  simp only [Option.some.injEq, Addr.mk.injEq, and_true] at e1
  obtain ⟨rfl, rfl⟩ := e1
  obtain ⟨k1, bd, k2⟩ := h4 k hk
  rw [e] at k1
  obtain ⟨a', c', e', k5⟩ := h.body k hk
  rw [e] at e'
  simp only [Value.slice.injEq] at e'
  obtain ⟨rfl, rfl, rfl⟩ := e'
  exact ⟨⟨cur, h3, h1, h2⟩, (h3.cell _).trans k1, ⟨bd, (h3.cell _).trans k2⟩, h3.free _, k5⟩
end

end Go.Proofs.Ytdoecchigfdilaa
