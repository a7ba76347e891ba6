/- My texts Plain2, New2, Plain3, MoreP, StabP, Rn1, Two, Rn2, Rf27c, Subs, StH, Aw0, Lay, CpA, merged. -/
import Derived.Test.YteblddnoegbalaaGreatM14
import Derived.Test.YteblddnoegbalaaGreatM04
import Derived.Test.YteblddnoegbalaaGreatM03
import Derived.Test.YteblddnoegbalaaGreatM00
import Derived.Test.YteblddnoegbalaaGreatProg
import Derived.WalkKit
import Derived.Lib.Hide
import Derived.Deep.QuietTactic
import Derived.BigQuiet
import Derived.Lib.Bytealg
import Derived.MapKept
import Derived.Maps.OwnSet
import Derived.Maps.OwnOps
import Derived.WalkSpells
import Derived.Lib.SliceRun
import Derived.Test.YteblddnoegbalaaGreatM02
import Derived.Test.YteblddnoegbalaaGreatM01
import Derived.Deep.AppendLies
import Derived.Deep.RegionWith
import Derived.Deep.DeepCutAuto
import Derived.Deep.DrawnRows
import Derived.Test.YteblddnoegbalaaGreatM07
import Derived.Deep.OwnRows
import Derived.Deep.LoopGhost
import Derived.Laws.EntriesVeiled
import Derived.Test.YteblddnoegbalaaGreatM12
import Derived.Test.YteblddnoegbalaaGreatM11
import Derived.RangeFuncNested
import Derived.RangeFuncBound
import Derived.RangeFuncCalls
import Derived.RangeFuncLeaves
import Derived.OwnWalkIn
import Derived.TacticsInMore
import Derived.LoopNIn
import Derived.LoopIn
import Derived.Stop.RegionWithIn
import Derived.Shelf.Abstract
import Derived.Test.YteblddnoegbalaaGreatM05
import Derived.Test.YteblddnoegbalaaGreatM06
import Derived.Sort.QuietThIn
import Derived.Test.YteblddnoegbalaaGreatM10
import Derived.Test.YteblddnoegbalaaGreatM09
import Derived.Test.YteblddnoegbalaaGreatM08
import Derived.Maps.RangeWalk
import Derived.Lib.SlicesCompact
import Derived.Shelf.Sort.Plain
import Derived.Shelf.Slices.CompactI
import Derived.Shelf.Slices.In.SortNone
import Derived.Shelf.Strconv.Itoa3
import Derived.Shelf.Strings.BuilderK
import Derived.Shelf.Slices.SearchI
import Derived.Shelf.Slices.Empties
import Derived.Sort.OwnSortedInts
import Derived.RangeFuncBox
import Derived.Maps.OwnIn
import Derived.Lib.RowBridge
import Derived.Test.YteblddnoegbalaaGreatM13
import Derived.Deep.AppendSrc

namespace Go.Proofs.YteblddnoegbalaaGreat
open Go.RowKit
def InHead (p : GP) (i x : Int) : Prop := 0 ≤ i ∧ i < p.rules.length ∧ x ∈ (ixR p.rules i.toNat).head
def InBody (p : GP) (i x : Int) : Prop := 0 ≤ i ∧ i < p.rules.length ∧ x ∈ (ixR p.rules i.toNat).body
def avB (p : GP) (a : List Int) (F K : Int → Int) (i before : Int) : Bool := availB p a F K i.toNat before
def SInv (p : GP) (F K : Int → Int) (clock : Int) : Prop :=
  ∀ x, F x = 0 ∨ (0 < F x ∧ 1 ≤ x ∧ x ≤ p.n ∧ InHead p (F x - 1) x ∧ 1 ≤ K x ∧ K x ≤ clock)
theorem cntF_le (F : Int → Int) : ∀ n, cntF F n ≤ n
  | 0 => Nat.le_refl _
  | n + 1 => by have := cntF_le F n; unfold cntF; split <;> omega
theorem setI_eq (F : Int → Int) (x v : Int) : setI F x v x = v := by simp [setI]
theorem setI_ne (F : Int → Int) {x y : Int} (v : Int) (h : y ≠ x) : setI F x v y = F y := by simp [setI, h]
theorem cntF_set_out (F : Int → Int) (x v : Int) : ∀ n : Nat, (n : Int) < x → cntF (setI F x v) n = cntF F n
  | 0, _ => rfl
  | n + 1, h => by
    unfold cntF
    rw [cntF_set_out F x v n (by omega), setI_ne F v (by omega)]
theorem cntF_up (F : Int → Int) (x v : Int) (h0 : ¬ 0 < F x) (hv : 0 < v) : ∀ n : Nat, 1 ≤ x → x ≤ n → cntF (setI F x v) n = cntF F n + 1
  | 0, h1, h2 => by omega
  | n + 1, h1, h2 => by
    unfold cntF
    by_cases e : x = (n : Int) + 1
    · subst e
      rw [cntF_set_out F _ v n (by omega), setI_eq, if_pos hv, if_neg h0]
    · rw [cntF_up F x v h0 hv n h1 (by omega), setI_ne F v (fun e' => e e'.symm)]
      omega
theorem cntF_down (F : Int → Int) (x : Int) (h0 : 0 < F x) : ∀ n : Nat, 1 ≤ x → x ≤ n → cntF (setI F x 0) n + 1 = cntF F n
  | 0, h1, h2 => by omega
  | n + 1, h1, h2 => by
    unfold cntF
    by_cases e : x = (n : Int) + 1
    · subst e
      rw [cntF_set_out F _ 0 n (by omega), setI_eq, if_neg (by omega), if_pos h0]
    · have := cntF_down F x h0 n h1 (by omega)
      rw [setI_ne F 0 (fun e' => e e'.symm)]
      omega
section avail
variable {p : GP} {a : List Int} {F K F' K' : Int → Int}
theorem avSum_congr {r : GR} {b b' : Int} (h : ∀ l ∈ r.body, holdsB a F K b l = holdsB a F' K' b' l) : ∀ k, k ≤ r.body.length → avSum r a F K b k = avSum r a F' K' b' k
  | 0, _ => rfl
  | k + 1, hk => by
    unfold avSum
    rw [avSum_congr h k (by omega), h (ix r.body k) (by
      have e : ix r.body k = r.body[k] := by simp [ix, List.getD_eq_getElem?_getD, List.getElem?_eq_getElem (show k < r.body.length by omega)]
      rw [e]; exact List.getElem_mem (by omega))]
theorem avB_congr {i b b' : Int} (h : ∀ l ∈ (ixR p.rules i.toNat).body, holdsB a F K b l = holdsB a F' K' b' l) : avB p a F K i b = avB p a F' K' i b' := by
  unfold avB availB
  rw [avSum_congr h _ (Nat.le_refl _)]
  congr 2
  have e : ∀ k, k < (ixR p.rules i.toNat).body.length → holdsB a F K b (ix (ixR p.rules i.toNat).body k) = holdsB a F' K' b' (ix (ixR p.rules i.toNat).body k) := fun k hk => h _ (by
    have e : ix (ixR p.rules i.toNat).body k = (ixR p.rules i.toNat).body[k] := by simp [ix, List.getD_eq_getElem?_getD, List.getElem?_eq_getElem hk]
    rw [e]; exact List.getElem_mem hk)
  unfold allR
  rw [Bool.eq_iff_iff]
  simp only [List.all_eq_true, List.mem_range]
  constructor
  · intro h1 k hk; rw [← e k hk]; exact h1 k hk
  · intro h1 k hk; rw [e k hk]; exact h1 k hk
theorem avB_away {i b x u v : Int} (h : x ∉ (ixR p.rules i.toNat).body) : avB p a (setI F x u) (setI K x v) i b = avB p a F K i b :=
  avB_congr fun l hl => by
    have : l ≠ x := fun e => h (e ▸ hl)
    unfold holdsB
    rw [setI_ne F u this, setI_ne K v this]
theorem avB_new {i b x u c : Int} (h0 : ¬ 0 < F x) (hb : b ≤ c) : avB p a (setI F x u) (setI K x c) i b = avB p a F K i b :=
  avB_congr fun l hl => by
    unfold holdsB
    by_cases e : l = x
    · subst e
      rw [setI_eq, setI_eq]
      have h1 : decide (c < b) = false := decide_eq_false (by omega)
      have h2 : decide (0 < F l) = false := decide_eq_false h0
      rw [h1, h2]; simp
    · rw [setI_ne F u e, setI_ne K c e]
theorem avB_time {i b b' clock : Int} (h : SInv p F K clock) (hb : clock < b) (hb' : clock < b') : avB p a F K i b = avB p a F K i b' :=
  avB_congr fun l hl => by
    unfold holdsB
    rcases h l with h1 | h1
    · rw [h1]; simp
    · have h2 : decide (K l < b) = true := decide_eq_true (by omega)
      have h3 : decide (K l < b') = true := decide_eq_true (by omega)
      rw [h2, h3]
end avail
structure LI (p : GP) (a : List Int) (F K : Int → Int) (clock : Int) (l : List Int) (X : Int) (R : Int → Int → Prop) : Prop where
  inv : SInv p F K clock
  off : ∀ z, 0 < F z → z < X → offB a z = false
  ok : ∀ z, 0 < F z → avB p a F K (F z - 1) (K z) = true ∨ (∃ y ∈ l, InBody p (F z - 1) y) ∨ R z (F z - 1)
  q : ∀ y ∈ l, 1 ≤ y ∧ y ≤ p.n
  cnt : (cntF F p.n.toNat + l.length : Int) ≤ p.n
section lose
variable {p : GP} {a l : List Int} {F K : Int → Int} {clock X X' : Int} {R R' : Int → Int → Prop}
theorem LI.start (h : SInv p F K clock) (hn : 0 ≤ p.n) : LI p a F K clock [] 1 (fun z _ => 1 ≤ z) := by
  refine ⟨h, fun z hz hx => ?_, fun z hz => .inr (.inr ?_), fun y hy => by simp at hy, ?_⟩
  · rcases h z with h1 | h1 <;> omega
  · rcases h z with h1 | h1 <;> omega
  · have := cntF_le F p.n.toNat; simp; omega
theorem LI.drop (h : LI p a F K clock l X R) (x : Int) (hx : 0 < F x) (hX : ∀ z, z < X' → z ≠ x → z < X) (hR : ∀ z i, z ≠ x → R z i → R' z i) : LI p a (setI F x 0) (setI K x 0) clock (l ++ [x]) X' R' := by
  have hi := h.inv x
  refine ⟨fun z => ?_, fun z hz hzx => ?_, fun z hz => ?_, fun y hy => ?_, ?_⟩
  · by_cases e : z = x
    · subst e; left; rw [setI_eq]
    · rw [setI_ne F 0 e, setI_ne K 0 e]; exact h.inv z
  · have e : z ≠ x := fun e => by subst e; rw [setI_eq] at hz; omega
    rw [setI_ne F 0 e] at hz
    exact h.off z hz (hX z hzx e)
  · have e : z ≠ x := fun e => by subst e; rw [setI_eq] at hz; omega
    rw [setI_ne F 0 e] at hz ⊢
    rw [setI_ne K 0 e]
    by_cases hb : x ∈ (ixR p.rules (F z - 1).toNat).body
    · right; left
      refine ⟨x, by simp, ?_⟩
      rcases h.inv z with h1 | h1
      · omega
      · have := h1.2.2.2.1; exact ⟨this.1, this.2.1, hb⟩
    · rw [avB_away hb]
      rcases h.ok z hz with h1 | ⟨y, h1, h2⟩ | h1
      · exact .inl h1
      · exact .inr (.inl ⟨y, by simp [h1], h2⟩)
      · exact .inr (.inr (hR z _ e h1))
  · simp only [List.mem_append, List.mem_singleton] at hy
    rcases hy with hy | rfl
    · exact h.q y hy
    · omega
  · have h2 := h.cnt
    have h3 := cntF_down F x hx p.n.toNat (by omega) (by omega)
    simp only [List.length_append, List.length_singleton]
    push_cast
    omega
theorem LI.keep (h : LI p a F K clock l X R) (hX : ∀ z, 0 < F z → z < X' → z < X ∨ offB a z = false) (hR : ∀ z, 0 < F z → R z (F z - 1) → avB p a F K (F z - 1) (K z) = true ∨ R' z (F z - 1)) : LI p a F K clock l X' R' := by
  refine ⟨h.inv, fun z hz hzx => ?_, fun z hz => ?_, h.q, h.cnt⟩
  · rcases hX z hz hzx with h1 | h1
    · exact h.off z hz h1
    · exact h1
  · rcases h.ok z hz with h1 | h1 | h1
    · exact .inl h1
    · exact .inr (.inl h1)
    · rcases hR z hz h1 with h2 | h2
      · exact .inl h2
      · exact .inr (.inr h2)
end lose
structure Lost (p : GP) (a : List Int) (F K : Int → Int) (clock : Int) : Prop where
  inv : SInv p F K clock
  off : ∀ z, 0 < F z → offB a z = false
  ok : ∀ z, 0 < F z → avB p a F K (F z - 1) (K z) = true
theorem LI.done {p : GP} {a : List Int} {F K : Int → Int} {clock X : Int} {R : Int → Int → Prop} (h : LI p a F K clock [] X R) (hX : p.n < X) (hR : ∀ z i, ¬ R z i) : Lost p a F K clock := by
  refine ⟨h.inv, fun z hz => h.off z hz ?_, fun z hz => ?_⟩
  · rcases h.inv z with h1 | h1 <;> omega
  · rcases h.ok z hz with h1 | ⟨y, h1, h2⟩ | h1
    · exact h1
    · simp at h1
    · exact absurd h1 (hR _ _)
structure GI (p : GP) (a : List Int) (F K : Int → Int) (clock C0 : Int) (l : List Int) (R : Int → Int → Prop) : Prop where
  lost : Lost p a F K clock
  cmp : ∀ z i, 1 ≤ z → z ≤ p.n → ¬ 0 < F z → offB a z = false → InHead p i z → avB p a F K i (clock + 1) = false ∨ (∃ y ∈ l, InBody p i y) ∨ R z i
  q : ∀ y ∈ l, 1 ≤ y ∧ y ≤ p.n
  cnt : l.length ≤ cntF F p.n.toNat
  clk : clock ≤ C0 + cntF F p.n.toNat
section gain
variable {p : GP} {a l : List Int} {F K : Int → Int} {clock C0 : Int} {R R' : Int → Int → Prop}
theorem GI.start (h : Lost p a F K clock) : GI p a F K clock clock [] (fun z _ => 1 ≤ z) :=
  ⟨h, fun z i h1 h2 h3 h4 h5 => .inr (.inr h1), fun y hy => by simp at hy, by simp, by omega⟩
theorem GI.push (h : GI p a F K clock C0 l R) (hc : 0 ≤ clock) (x i : Int) (h0 : ¬ 0 < F x) (hx : 1 ≤ x ∧ x ≤ p.n) (ho : offB a x = false) (hi : InHead p i x) (hav : avB p a F K i (clock + 1) = true) (hR : ∀ z j, z ≠ x → R z j → R' z j) :
    GI p a (setI F x (i + 1)) (setI K x (clock + 1)) (clock + 1) C0 (l ++ [x]) R' := by
  have hinv : SInv p (setI F x (i + 1)) (setI K x (clock + 1)) (clock + 1) := fun z => by
    by_cases e : z = x
    · subst e
      rw [setI_eq, setI_eq]
      have := hi.1
      exact .inr ⟨by omega, hx.1, hx.2, by rwa [show i + 1 - 1 = i by omega], by omega, by omega⟩
    · rw [setI_ne F _ e, setI_ne K _ e]
      rcases h.lost.inv z with h1 | h1
      · exact .inl h1
      · exact .inr ⟨h1.1, h1.2.1, h1.2.2.1, h1.2.2.2.1, h1.2.2.2.2.1, by omega⟩
  have hup := cntF_up F x (i + 1) h0 (by have := hi.1; omega) p.n.toNat hx.1 (by omega)
  refine ⟨⟨hinv, fun z hz => ?_, fun z hz => ?_⟩, fun z j h1 h2 h3 h4 h5 => ?_, fun y hy => ?_, ?_, ?_⟩
  · by_cases e : z = x
    · subst e; exact ho
    · rw [setI_ne F _ e] at hz; exact h.lost.off z hz
  · by_cases e : z = x
    · subst e
      rw [setI_eq, setI_eq, avB_new h0 (by omega), show i + 1 - 1 = i by omega]
      exact hav
    · rw [setI_ne F _ e] at hz ⊢
      rw [setI_ne K _ e]
      rcases h.lost.inv z with h1 | h1
      · omega
      · rw [avB_new h0 (by omega)]
        exact h.lost.ok z hz
  · have e : z ≠ x := fun e => by subst e; rw [setI_eq] at h3; have := hi.1; omega
    rw [setI_ne F _ e] at h3
    by_cases hb : x ∈ (ixR p.rules j.toNat).body
    · exact .inr (.inl ⟨x, by simp, h5.1, h5.2.1, hb⟩)
    · rw [avB_away hb, avB_time (b' := clock + 1) h.lost.inv (by omega) (by omega)]
      rcases h.cmp z j h1 h2 h3 h4 h5 with h6 | ⟨y, h6, h7⟩ | h6
      · exact .inl h6
      · exact .inr (.inl ⟨y, by simp [h6], h7⟩)
      · exact .inr (.inr (hR z j e h6))
  · simp only [List.mem_append, List.mem_singleton] at hy
    rcases hy with hy | rfl
    · exact h.q y hy
    · exact hx
  · have := h.cnt
    simp only [List.length_append, List.length_singleton]
    omega
  · have := h.clk
    rw [hup]; push_cast; omega
theorem GI.keep (h : GI p a F K clock C0 l R) (hR : ∀ z i, 1 ≤ z → z ≤ p.n → ¬ 0 < F z → offB a z = false → InHead p i z → R z i → avB p a F K i (clock + 1) = false ∨ R' z i) : GI p a F K clock C0 l R' := by
  refine ⟨h.lost, fun z i h1 h2 h3 h4 h5 => ?_, h.q, h.cnt, h.clk⟩
  rcases h.cmp z i h1 h2 h3 h4 h5 with h6 | h6 | h6
  · exact .inl h6
  · exact .inr (.inl h6)
  · rcases hR z i h1 h2 h3 h4 h5 h6 with h7 | h7
    · exact .inl h7
    · exact .inr (.inr h7)
end gain
structure Found (p : GP) (a : List Int) (F K : Int → Int) (clock : Int) : Prop where
  lost : Lost p a F K clock
  cmp : ∀ z i, 1 ≤ z → z ≤ p.n → ¬ 0 < F z → offB a z = false → InHead p i z → avB p a F K i (clock + 1) = false
theorem GI.done {p : GP} {a : List Int} {F K : Int → Int} {clock C0 : Int} {R : Int → Int → Prop} (h : GI p a F K clock C0 [] R) (hR : ∀ z i, ¬ R z i) : Found p a F K clock ∧ clock ≤ C0 + cntF F p.n.toNat := by
  refine ⟨⟨h.lost, fun z i h1 h2 h3 h4 h5 => ?_⟩, h.clk⟩
  rcases h.cmp z i h1 h2 h3 h4 h5 with h6 | ⟨y, h6, h7⟩ | h6
  · exact h6
  · simp at h6
  · exact absurd h6 (hR _ _)
def R3 (row : List Int) (k : Nat) (_ i : Int) : Prop := ∃ j, k ≤ j ∧ j < row.length ∧ i = ix row j
def R4 (row head : List Int) (k m : Nat) (z i : Int) : Prop := (i = ix row k ∧ ∃ j, m ≤ j ∧ j < head.length ∧ z = ix head j) ∨ ∃ j, k < j ∧ j < row.length ∧ i = ix row j
theorem ix_of_mem {l : List Int} {x : Int} (h : x ∈ l) : ∃ j, j < l.length ∧ x = ix l j := by
  obtain ⟨j, hj, e⟩ := List.mem_iff_getElem.1 h
  exact ⟨j, hj, by simp [ix, List.getD_eq_getElem?_getD, List.getElem?_eq_getElem hj, e]⟩
theorem R4.start {row head : List Int} {k : Nat} {z i : Int} (h : R3 row k z i) (hz : i = ix row k → z ∈ head) : R4 row head k 0 z i := by
  obtain ⟨j, h1, h2, h3⟩ := h
  rcases Nat.eq_or_lt_of_le h1 with rfl | h4
  · obtain ⟨m, h5, h6⟩ := ix_of_mem (hz h3)
    exact .inl ⟨h3, m, Nat.zero_le _, h5, h6⟩
  · exact .inr ⟨j, h4, h2, h3⟩
theorem R4.next {row head : List Int} {k m : Nat} {z i : Int} (h : R4 row head k m z i) : (z = ix head m ∧ i = ix row k) ∨ R4 row head k (m + 1) z i := by
  rcases h with ⟨h1, j, h2, h3, h4⟩ | h1
  · rcases Nat.eq_or_lt_of_le h2 with rfl | h5
    · exact .inl ⟨h4, h1⟩
    · exact .inr (.inl ⟨h1, j, h5, h3, h4⟩)
  · exact .inr (.inr h1)
theorem R4.done {row head : List Int} {k : Nat} {z i : Int} (h : R4 row head k head.length z i) : R3 row (k + 1) z i := by
  rcases h with ⟨h1, j, h2, h3, h4⟩ | ⟨j, h1, h2, h3⟩
  · omega
  · exact ⟨j, h1, h2, h3⟩
theorem R3.done {row : List Int} {z i : Int} : ¬ R3 row row.length z i := by
  rintro ⟨j, h1, h2, h3⟩; omega
theorem R3.start {p : GP} {R : Int → List Int} (h : RowsAt (fun x => decide (0 < x)) (fun i => (ixR p.rules i).body) p.rules.length 0 R) {y z i : Int} (hy : 1 ≤ y) (hb : InBody p i y) : R3 (R y) 0 z i := by
  have hm : i ∈ R y := ((h y).2 i).2 ⟨decide_eq_true (by omega), .inl hb⟩
  obtain ⟨j, h1, h2⟩ := ix_of_mem hm
  exact ⟨j, Nat.zero_le _, h1, h2⟩
section
variable {κ : Nat → Tg} {t : Tg} {w w' : World} {H : Nat}
theorem RulesOwn.rulesA {v : Value} {L : List RQ} (h : RulesOwn κ H v L w) (l : List GR) (hl : L.map (·.1) = l) : RulesAt w v l (fun i => (L.getD i default).2.1) (fun i => (L.getD i default).2.2.1) (fun i => (L.getD i default).2.2.2) := by
  have hlen : l.length = L.length := by rw [← hl]; simp
  have hq : ∀ i, i < l.length → L.getD i default ∈ L ∧ (L.getD i default).1 = ixR l i := fun i hi => by
    have hi' : i < L.length := by omega
    have e : L.getD i default = L[i] := by simp [List.getD_eq_getElem?_getD, List.getElem?_eq_getElem hi']
    rw [e]
    refine ⟨List.getElem_mem hi', ?_⟩
    subst hl
    simp [ixR, List.getD_eq_getElem?_getD, List.getElem?_eq_getElem hi']
  refine ⟨?_, fun i hi => ?_⟩
  · rw [hlen]
    rcases h.row.2 with ⟨rfl, h0⟩ | ⟨g, cap, cur, rfl, hb, hg, hn, hm, hs, hx⟩
    · exact ⟨none, 0, by rw [h0], by omega, by unfold maxLen; omega, by omega, fun hp => by omega⟩
    · refine ⟨_, cap, rfl, hn, hm, h.fit, fun _ => ⟨g, 0, rfl, (Array.getElem?_eq_some_iff.1 hg).1, fun i hi j hj => ?_⟩⟩
      have h6 := flat6 L i j hi hj
      rw [← hx, List.getElem?_take_of_lt (by omega)] at h6
      rw [cell_of_row w g (0 + i * 6 + j) cur _ (0, 0) hg, Nat.zero_add]
      have e2 := (hq i (by omega)).2
      dsimp only
      rw [← e2]
      have : cur[i * 6 + j]? = cur.toList[i * 6 + j]? := by simp
      rw [this, h6]
      rcases (show j = 0 ∨ j = 1 ∨ j = 2 ∨ j = 3 ∨ j = 4 ∨ j = 5 by omega) with rfl | rfl | rfl | rfl | rfl | rfl <;> rfl
  · obtain ⟨hm, e⟩ := hq i hi
    have := h.each _ hm
    rw [← e]
    exact ⟨this.head.ints, this.body.ints, this.wts.ints, this.bound⟩
end
section mono
variable {p : GP} {a : List Int} {F K F' K' : Int → Int}
theorem avSum_mono {r : GR} {b b' : Int} (hw : ∀ k, k < r.w.length → 1 ≤ ix r.w k) (hl : r.w.length = r.body.length) (h : ∀ l ∈ r.body, holdsB a F K b l = true → holdsB a F' K' b' l = true) : ∀ k, k ≤ r.body.length → avSum r a F K b k ≤ avSum r a F' K' b' k
  | 0, _ => Int.le_refl _
  | k + 1, hk => by
    have h1 := avSum_mono hw hl h k (by omega)
    have h2 := hw k (by omega)
    have h3 := h (ix r.body k) (ix_mem (by omega))
    unfold avSum
    cases h4 : holdsB a F K b (ix r.body k) with
    | true => rw [h3 h4]; simp only [if_true]; omega
    | false =>
      simp only [Bool.false_eq_true, if_false]
      split <;> omega
theorem avB_mono {i : Int} {b b' : Int} (hv : validE p = 0) (hi : 0 ≤ i ∧ i < p.rules.length) (h : ∀ l ∈ (ixR p.rules i.toNat).body, holdsB a F K b l = true → holdsB a F' K' b' l = true) (hav : avB p a F K i b = true) : avB p a F' K' i b' = true := by
  unfold avB availB at *
  simp only [Bool.and_eq_true] at *
  refine ⟨hav.1, ?_⟩
  have h2 := hav.2
  have hil : i.toNat < p.rules.length := by omega
  cases hs : (ixR p.rules i.toNat).sum with
  | true =>
    rw [hs] at h2
    simp only [if_true, decide_eq_true_eq] at h2 ⊢
    obtain ⟨h3, h4, -⟩ := weights_sum ((validP hv).sum i.toNat hil hs)
    have := avSum_mono h4 (by omega) h _ (Nat.le_refl _)
    omega
  | false =>
    rw [hs] at h2
    simp only [Bool.false_eq_true, if_false] at h2 ⊢
    exact allR_true fun k hk => h _ (ix_mem hk) (allR_get h2 k hk)
end mono
def avS (p : GP) (a : List Int) (G : Int → Int) (i : Int) : Bool := avB p a G (fun _ => 0) i 1
theorem holds_set {a : List Int} {G : Int → Int} {l : Int} : holdsB a G (fun _ => 0) 1 l = (!offB a l && (decide (l < 0) || decide (0 < G l))) := by
  unfold holdsB
  have : decide ((0 : Int) < 1) = true := decide_eq_true (by omega)
  rw [this, Bool.and_true]
def Closed (p : GP) (a : List Int) (G : Int → Int) : Prop :=
  ∀ x i, 1 ≤ x → x ≤ p.n → offB a x = false → InHead p i x → avS p a G i = true → 0 < G x
structure IsFnd (p : GP) (a : List Int) (G : Int → Int) : Prop where
  dom : ∀ x, 0 < G x → 1 ≤ x ∧ x ≤ p.n
  closed : Closed p a G
  least : ∀ T, Closed p a T → ∀ x, 0 < G x → 0 < T x
theorem IsFnd.unique {p : GP} {a : List Int} {G G' : Int → Int} (h : IsFnd p a G) (h' : IsFnd p a G') (x : Int) : 0 < G x ↔ 0 < G' x :=
  ⟨h.least G' h'.closed x, h'.least G h.closed x⟩
structure Round (p : GP) (F K G0 G : Int → Int) (x : Int) : Prop where
  one : ∀ y, G y = 0 ∨ (G y = 1 ∧ 0 < F y)
  up : ∀ y, 0 < G0 y → 0 < G y
  done : ∀ y, 1 ≤ y → y < x → 0 < F y → (∀ l, 0 < F l → K l < K y → 0 < G0 l) → 0 < G y
section round
variable {p : GP} {a : List Int} {F K G0 G : Int → Int} {clock x : Int}
theorem Round.start (h : ∀ y, G y = 0 ∨ (G y = 1 ∧ 0 < F y)) : Round p F K G G 1 := ⟨h, fun _ h => h, fun y h1 h2 => by omega⟩
theorem Round.add (h : Round p F K G0 G x) (hF : 0 < F x) : Round p F K G0 (setI G x 1) (x + 1) := by
  refine ⟨fun y => ?_, fun y hy => ?_, fun y h1 h2 h3 h4 => ?_⟩ <;> by_cases e : y = x
  · subst e; rw [setI_eq]; exact .inr ⟨rfl, hF⟩
  · rw [setI_ne G _ e]; exact h.one y
  · subst e; rw [setI_eq]; omega
  · rw [setI_ne G _ e]; exact h.up y hy
  · subst e; rw [setI_eq]; omega
  · rw [setI_ne G _ e]; exact h.done y h1 (by omega) h3 h4
theorem Round.skip (hv : validE p = 0) (hl : Lost p a F K clock) (h : Round p F K G0 G x) (hs : ¬ 0 < F x ∨ 0 < G x ∨ avS p a G (F x - 1) = false) : Round p F K G0 G (x + 1) := by
  refine ⟨h.one, h.up, fun y h1 h2 h3 h4 => ?_⟩
  by_cases e : y = x
  · subst e
    rcases hs with h5 | h5 | h5
    · exact absurd h3 h5
    · exact h5
    · have hin : InHead p (F y - 1) y := by
        rcases hl.inv y with h6 | h6
        · omega
        · exact h6.2.2.2.1
      have : avS p a G (F y - 1) = true := avB_mono hv ⟨hin.1, hin.2.1⟩ (fun l hl hh => by
        rw [holds_set]
        unfold holdsB at hh
        simp only [Bool.and_eq_true, Bool.or_eq_true, decide_eq_true_eq] at hh ⊢
        exact ⟨hh.1, hh.2.imp id (fun h6 => h.up l (h4 l h6.1 h6.2))⟩) (hl.ok y h3)
      rw [h5] at this; cases this
  · exact h.done y h1 (by omega) h3 h4
end round
def posR (r : GR) : Bool := decide (r.head.length = 1) && !r.choice && allR r.body.length (fun k => decide (0 < ix r.body k))
def posRules (l : List GR) : List GR := l.filter posR
def GP.pos (p : GP) : GP := { p with rules := posRules p.rules }
def posP (r : GR) : Nat → List (Int × Int)
  | 0 => []
  | k + 1 => if 0 < ix r.body k then posP r k ++ [(ix r.body k, ix r.w k)] else posP r k
def negW (m : List Int) (r : GR) : Nat → Int
  | 0 => 0
  | k + 1 => negW m r k + if ix r.body k < 0 ∧ -(ix r.body k) ∉ m then ix r.w k else 0
def fstL (l : List (Int × Int)) : List Int := l.map (·.1)
def sndL (l : List (Int × Int)) : List Int := l.map (·.2)
def redAt (m : List Int) (r : GR) (k : Nat) : GR := ⟨false, [], r.sum, r.bound - (if r.sum then negW m r k else 0), fstL (posP r k), if r.sum then sndL (posP r k) else []⟩
structure EqSt (w : World) (c d : PBC) (vl vk ul uk : Value) (W : World) : Prop where
  b1 : Blk W w.heap.size [vl, vk, .int .i64 c.bound] 25
  b2 : Blk W (w.heap.size + 1) [ul, uk, .int .i64 d.bound] 25
  below : Below w.heap.size w W
theorem EqSt.on {w : World} {c d : PBC} {vl vk ul uk : Value} {W W' : World} (h : EqSt w c d vl vk ul uk W) (hb : Below W.heap.size W W') : EqSt w c d vl vk ul uk W' := ⟨h.b1.below hb, h.b2.below hb, bon h.below hb⟩
def sg (l : List Nat) (r : Nat) : Nat := l.getD r (1000 + r)
def okB (l E : List Nat) : Bool :=
  ((List.range l.length).all fun i => (List.range l.length).all fun j => i == j || l.getD i 0 != l.getD j 0) && l.all (fun x => decide (x < 1000)) && E.all (fun x => decide (x < 1000)) && l.all (fun x => !E.contains x)
theorem sg_inj {l E : List Nat} (h : okB l E = true) {r s : Nat} (e : sg l r = sg l s) : r = s := by
  unfold okB at h
  simp only [Bool.and_eq_true, List.all_eq_true, List.mem_range, Bool.or_eq_true, beq_iff_eq, bne_iff_ne, decide_eq_true_eq] at h
  obtain ⟨⟨⟨h1, h2⟩, -⟩, -⟩ := h
  unfold sg at e
  have hg : ∀ i (hi : i < l.length), l.getD i (1000 + i) = l[i] := fun i hi => by simp [List.getD_eq_getElem?_getD, hi]
  have hn : ∀ i, l.length ≤ i → l.getD i (1000 + i) = 1000 + i := fun i hi => by rw [List.getD_eq_getElem?_getD, List.getElem?_eq_none hi]; rfl
  have hb : ∀ i (hi : i < l.length), l[i] < 1000 := fun i hi => h2 _ (List.getElem_mem hi)
  rcases Nat.lt_or_ge r l.length with hr | hr <;> rcases Nat.lt_or_ge s l.length with hs | hs
  · rcases h1 r hr s hs with h3 | h3
    · exact h3
    · rw [hg r hr, hg s hs] at e
      exact absurd (by simpa [List.getD_eq_getElem?_getD, hr, hs] using e) h3
  · rw [hg r hr, hn s hs] at e
    have := hb r hr
    omega
  · rw [hn r hr, hg s hs] at e
    have := hb s hs
    omega
  · rw [hn r hr, hn s hs] at e
    omega
theorem sg_out {l E : List Nat} (h : okB l E = true) {i : Nat} (hi : E.contains i = true) (r : Nat) : sg l r ≠ i := by
  unfold okB at h
  simp only [Bool.and_eq_true, List.all_eq_true, decide_eq_true_eq, Bool.not_eq_true'] at h
  obtain ⟨⟨⟨-, h2⟩, h3⟩, h4⟩ := h
  rintro rfl
  unfold sg at hi
  rcases Nat.lt_or_ge r l.length with hr | hr
  · have e : l.getD r (1000 + r) = l[r] := by simp [List.getD_eq_getElem?_getD, hr]
    rw [e, h4 _ (List.getElem_mem hr)] at hi
    cases hi
  · have e : l.getD r (1000 + r) = 1000 + r := by rw [List.getD_eq_getElem?_getD, List.getElem?_eq_none hr]; rfl
    rw [e] at hi
    have := h3 _ (List.contains_iff_mem.1 hi)
    omega
theorem upd_sg {α : Type} {l E : List Nat} (h : okB l E = true) (f : Nat → α) (r0 : Nat) (v : α) : (fun r => updN f (sg l r0) v (sg l r)) = updN (fun r => f (sg l r)) r0 v := by
  funext r
  unfold updN
  by_cases e : r = r0
  · subst e; rw [if_pos rfl, if_pos rfl]
  · rw [if_neg (fun e2 => e (sg_inj h e2)), if_neg e]
structure TS (l E : List Nat) (Q : Nat → Value) (w : World) (ob : Nat) (v1 v2 bd : Value) (l1 l2 : List Int) (x y : Int) (vals : Nat → Value) (L : Nat → Bool) (wx : World) : Prop where
  t : TW w ob v1 v2 bd l1 l2 x y (fun r => vals (sg l r)) (fun r => L (sg l r)) wx
  q : ∀ i, E.contains i = true → L i = true → vals i = Q i
section
variable {l E : List Nat} {Q : Nat → Value} {w : World} {ob : Nat} {v1 v2 bd : Value} {l1 l2 : List Int} {x y : Int} {vals : Nat → Value} {L : Nat → Bool} {wx : World}
theorem TS.start (hb : Blk w ob [v1, v2, bd] 25) (h1 : QRow (ob + 1) w v1 l1) (h2 : QRow (ob + 1) w v2 l2) (hf : Far v1 v2) : TS l E Q w ob v1 v2 bd l1 l2 x y (fun _ => undef) (fun _ => false) w.drew :=
  ⟨TW.start hb h1 h2 hf, fun _ _ h => Bool.noConfusion h⟩
theorem TS.keepQ (ok : okB l E = true) (h : ∀ i, E.contains i = true → L i = true → vals i = Q i) (r : Nat) (v : Value) : ∀ i, E.contains i = true → updN L (sg l r) true i = true → updN vals (sg l r) v i = Q i := fun i hi hL => by
  have hne : i ≠ sg l r := fun e => sg_out ok hi r e.symm
  unfold updN at hL ⊢
  rw [if_neg hne] at hL ⊢
  exact h i hi hL
theorem TS.quiet (ok : okB l E = true) (h : TS l E Q w ob v1 v2 bd l1 l2 x y vals L wx) (r : Nat) (hr : r = 0 ∨ r = 1 ∨ r = 2 ∨ r = 5 ∨ r = 6 ∨ r = 7 ∨ r = 10 ∨ r = 12) : TS l E Q w ob v1 v2 bd l1 l2 x y (updN vals (sg l r) (quietV ob v1 v2 x y r)) (updN L (sg l r) true) wx :=
  ⟨by rw [upd_sg ok, upd_sg ok]; exact h.t.quiet r hr, TS.keepQ ok h.q r _⟩
theorem TS.build3 (ok : okB l E = true) (h : TS l E Q w ob v1 v2 bd l1 l2 x y vals L wx) : TS l E Q w ob v1 v2 bd l1 l2 x y (updN vals (sg l 3) (.slice (some ⟨wx.heap.size, 0, none⟩) 1 1)) (updN L (sg l 3) true) (wx.alloc (.cells #[.int .i64 x] 3)) :=
  ⟨by rw [upd_sg ok, upd_sg ok]; exact h.t.build3, TS.keepQ ok h.q 3 _⟩
theorem TS.build8 (ok : okB l E = true) (h : TS l E Q w ob v1 v2 bd l1 l2 x y vals L wx) (hx : ∀ g, v1.ownBlock = some g → g < wx.heap.size) : TS l E Q w ob v1 v2 bd l1 l2 x y (updN vals (sg l 8) (.slice (some ⟨wx.heap.size, 0, none⟩) 1 1)) (updN L (sg l 8) true) (wx.alloc (.cells #[.int .i64 y] 3)) :=
  ⟨by rw [upd_sg ok, upd_sg ok]; exact h.t.build8 hx, TS.keepQ ok h.q 8 _⟩
theorem TS.app4 (ok : okB l E = true) (h : TS l E Q w ob v1 v2 bd l1 l2 x y vals L wx) (h4 : L (sg l 4) = false) (h9 : L (sg l 9) = false) (h11 : L (sg l 11) = false) {v' : Value} {w' : World} (hq : QRow (ob + 1) w' v' (l1 ++ [x])) (hg : wx.grownBy w' v1.ownBlock) (ho : v'.ownBlock = v1.ownBlock ∨ v'.ownBlock = some wx.heap.size) :
    TS l E Q w ob v1 v2 bd l1 l2 x y (updN vals (sg l 4) v') (updN L (sg l 4) true) w' :=
  ⟨by rw [upd_sg ok, upd_sg ok]; exact h.t.app4 h4 h9 h11 hq hg ho, TS.keepQ ok h.q 4 _⟩
theorem TS.app9 (ok : okB l E = true) (h : TS l E Q w ob v1 v2 bd l1 l2 x y vals L wx) (h4 : L (sg l 4) = true) (h9 : L (sg l 9) = false) (h13 : L (sg l 13) = false) {v' : Value} {w' : World} (hq : QRow (ob + 1) w' v' (l2 ++ [y])) (hg : wx.grownBy w' v2.ownBlock) (ho : v'.ownBlock = v2.ownBlock ∨ v'.ownBlock = some wx.heap.size) :
    TS l E Q w ob v1 v2 bd l1 l2 x y (updN vals (sg l 9) v') (updN L (sg l 9) true) w' :=
  ⟨by rw [upd_sg ok, upd_sg ok]; exact h.t.app9 h4 h9 h13 hq hg ho, TS.keepQ ok h.q 9 _⟩
theorem TS.store (ok : okB l E = true) (h : TS l E Q w ob v1 v2 bd l1 l2 x y vals L wx) (r : Nat) (h4 : L (sg l 4) = true) (h9 : L (sg l 9) = true) (hr : r = 11 ∨ r = 13) (u : Value) :
    TS l E Q w ob v1 v2 bd l1 l2 x y (updN vals (sg l r) u) (updN L (sg l r) true) (wx.setCell ⟨ob, if r = 11 then 0 else 1, none⟩ (if r = 11 then vals (sg l 4) else vals (sg l 9))) :=
  ⟨by rw [upd_sg ok, upd_sg ok]; exact h.t.store r h4 h9 hr u, TS.keepQ ok h.q r _⟩
theorem TS.end (h : TS l E Q w ob v1 v2 bd l1 l2 x y vals L wx) (hL : ∀ r, r < 14 → L (sg l r) = true) : Blk wx ob [vals (sg l 4), vals (sg l 9), bd] 25 ∧ QRow (ob + 1) wx (vals (sg l 4)) (l1 ++ [x]) ∧ QRow (ob + 1) wx (vals (sg l 9)) (l2 ++ [y]) ∧ Far (vals (sg l 4)) (vals (sg l 9)) ∧ Below ob w wx :=
  h.t.end hL
end
theorem QRow.setAt {base g off n cap : Nat} {w : World} {l : List Int} (h : QRow base w (.slice (some ⟨g, off, none⟩) n cap) l) {i : Nat} (hi : i < l.length) {x : Int} (hx : InI x) : QRow base (w.setCell ⟨g, off + i, none⟩ (.int .i64 x)) (.slice (some ⟨g, off, none⟩) n cap) (l.set i x) ∧ w.frozen? ⟨g, off + i, none⟩ = false ∧ w.cell? ⟨g, off + i, none⟩ = some (.int .i64 (ix l i)) := by
  rcases h.2 with ⟨e, _⟩ | ⟨g', off', cap', cur, e, hb, hg, h1, h2, h3, h4⟩
  · cases e
  · simp only [Value.slice.injEq, Option.some.injEq, Addr.mk.injEq] at e
    obtain ⟨⟨rfl, rfl, -⟩, rfl, rfl⟩ := e
    have hB : Blk w g cur.toList 3 := by unfold Blk; rw [hg]
    refine ⟨⟨fitI fun y hy => ?_, .inr ⟨g, off, cap, cur.setIfInBounds (off + i) (.int .i64 x), by rw [List.length_set], hb, ?_, by rw [List.length_set]; exact h1, h2, ?_, fun j hj => ?_⟩⟩, hB.free _, ?_⟩
    · rcases List.mem_or_eq_of_mem_set hy with h5 | rfl
      · obtain ⟨j, hj, rfl⟩ := List.mem_iff_getElem.1 h5
        have h6 := h.1 j
        unfold ix at h6
        rw [List.getD_eq_getElem?_getD, List.getElem?_eq_getElem hj] at h6
        exact h6
      · exact hx
    · have := hB.set (off + i) (.int .i64 x)
      unfold Blk at this
      rw [this, show (cur.toList.set (off + i) (Value.int .i64 x)).toArray = cur.setIfInBounds (off + i) (.int .i64 x) from Array.toList_inj.1 (by simp)]
    · simpa using h3
    · rw [List.length_set] at hj
      by_cases e : j = i
      · subst e
        have hlt : off + j < cur.size := by have := h4 j hj; exact (Array.getElem?_eq_some_iff.1 this).1
        rw [Array.getElem?_setIfInBounds_self_of_lt hlt]
        simp [ix, List.getD_eq_getElem?_getD, hj]
      · rw [Array.getElem?_setIfInBounds_ne (by omega), h4 j hj]
        unfold ix
        rw [List.getD_eq_getElem?_getD, List.getD_eq_getElem?_getD, List.getElem?_set_ne (Ne.symm e)]
    · have := h4 i hi
      simp [World.cell?, hg, this]
structure RN3 (w2 : World) (ob : Nat) (vl vk : Value) (ll lk : List Int) (wx : World) : Prop where
  out : Blk wx ob [vl, vk, .int .i64 0] 25
  rl : QRow (ob + 1) wx vl ll
  rk : QRow (ob + 1) wx vk lk
  far : Far vl vk
  below : Below ob w2 wx
theorem RN3.on {w2 : World} {ob : Nat} {vl vk : Value} {ll lk : List Int} {wx wy : World} (h : RN3 w2 ob vl vk ll lk wx) (hb : Below wx.heap.size wx wy) : RN3 w2 ob vl vk ll lk wy :=
  ⟨h.out.below hb, h.rl.below hb, h.rk.below hb, h.far, h.below.trans (hb.mono (Nat.le_of_lt h.out.lt))⟩
theorem RN3.next {w2 : World} {ob : Nat} {vl vk vl' vk' : Value} {ll lk ll' lk' : List Int} {wx wy : World} (h : RN3 w2 ob vl vk ll lk wx) (hb : Below ob wx wy) (ho : Blk wy ob [vl', vk', .int .i64 0] 25) (h1 : QRow (ob + 1) wy vl' ll') (h2 : QRow (ob + 1) wy vk' lk') (hf : Far vl' vk') : RN3 w2 ob vl' vk' ll' lk' wy :=
  ⟨ho, h1, h2, hf, h.below.trans hb⟩
theorem RN3.cap {w2 : World} {ob g off n cap : Nat} {vl : Value} {ll lk : List Int} {wx : World} (h : RN3 w2 ob vl (.slice (some ⟨g, off, none⟩) n cap) ll lk wx) {i : Nat} (hi : i < lk.length) {x : Int} (hx : InI x) :
    RN3 w2 ob vl (.slice (some ⟨g, off, none⟩) n cap) ll (lk.set i x) (wx.setCell ⟨g, off + i, none⟩ (.int .i64 x)) ∧ wx.frozen? ⟨g, off + i, none⟩ = false ∧ wx.cell? ⟨g, off + i, none⟩ = some (.int .i64 (ix lk i)) := by
  obtain ⟨h1, h2, h3⟩ := h.rk.setAt hi hx
  have hg := (h.rk.base (g := g) rfl).1
  refine ⟨⟨h.out.setOther _ _ (by omega), h.rl.kept fun j hj _ hv => Below.heap_setCell _ _ _ _ fun e => h.far j hv (congrArg some e.symm), h1, h.far, h.below.setCell (p := ⟨g, off + i, none⟩) (by show ob ≤ g; omega) _⟩, h2, h3⟩
structure AlSt (w : World) (cp : List Value) (rb : Nat) (cr : List Value) (r : GR) (vh vb vw vS vD : Value) (S D : List Int) (W : World) : Prop where
  pbx : Blk W w.heap.size cp 33
  rbx : Blk W rb cr 66
  sl : RuleSl W r vh vb vw
  set : Ints W vS S
  dd : Ints W vD D
  below : Below w.heap.size w W
theorem AlSt.on {w : World} {cp : List Value} {rb : Nat} {cr : List Value} {r : GR} {vh vb vw vS vD : Value} {S D : List Int} {W W' : World} (h : AlSt w cp rb cr r vh vb vw vS vD S D W) (hb : Below W.heap.size W W') : AlSt w cp rb cr r vh vb vw vS vD S D W' :=
  ⟨h.pbx.below hb, h.rbx.below hb, h.sl.below hb, h.set.below hb, h.dd.below hb, bon h.below hb⟩
theorem AlSt.rule {w : World} {cp : List Value} {rb : Nat} {cr : List Value} {r : GR} {vh vb vw vS vD : Value} {S D : List Int} {W : World} (h : AlSt w cp rb cr r vh vb vw vS vD S D W) : RuleIs W (.agg #[.bool r.choice, vh, .bool r.sum, .int .i64 r.bound, vb, vw]) r := ⟨_, _, _, rfl, h.sl⟩
def bitAt (bits : Int) (k : Nat) : Bool := decide (bits / 2 ^ k % 2 = 1)
def subL (bits : Int) : Nat → List Int
  | 0 => []
  | k + 1 => if bitAt bits k then subL bits k ++ [(k : Int) + 1] else subL bits k
theorem and_one_i64 (x : Int) : Go.bits .and .i64 x 1 = x % 2 := by
  unfold Go.bits
  simp only [BitVec.toNat_and, BitVec.toNat_ofInt]
  have e : ((1 : Int) % ((2 ^ IntKind.i64.bits : Nat) : Int)).toNat = 1 := by decide
  rw [e, Nat.and_one_is_mod]
  have e2 : ((2 ^ IntKind.i64.bits : Nat) : Int) = 18446744073709551616 := by decide
  rw [e2, IntKind.wrap_i64]
  omega
end Go.Proofs.YteblddnoegbalaaGreat
namespace Go.Proofs.YteblddnoegbalaaGreat
def satR (R : List GR) (s : List Int) : Bool := allR R.length (fun q => satT (ixR R q) s)
def sbTo (m : List Int) (k : Nat) : Nat → List Int
  | 0 => []
  | j + 1 => if bitAt k j then sbTo m k j ++ [ix m j] else sbTo m k j
def sbL (m : List Int) (k : Nat) : List Int := sbTo m k m.length
def MinIs (R : List GR) (m : List Int) (b : Bool) : Prop :=
  (∃ k : Nat, k < 2 ^ m.length ∧ (∀ j : Nat, j < k → satR R (sbL m j) = false) ∧ satR R (sbL m k) = true ∧ b = decide ((sbL m k).length = m.length)) ∨ ((∀ j : Nat, j < 2 ^ m.length → satR R (sbL m j) = false) ∧ b = false)
end Go.Proofs.YteblddnoegbalaaGreat
namespace Go.Proofs.YteblddnoegbalaaGreat
open Go.RowKit
def twoP : GP := ⟨2, [⟨#[97]⟩, ⟨#[98]⟩], [], [⟨false, [1], false, 0, [-2], []⟩, ⟨false, [2], false, 0, [-1], []⟩], []⟩
def ct1 : PBC := ⟨[1, 2, -4], [1, 2, 2], 2⟩
def ct2 : PBC := ⟨[-1, -2, 4], [1, 2, 2], 2⟩
def ct3 : PBC := ⟨[3, -4], [1, 1], 1⟩
theorem d1 : Lib.decDigits 1 = [49] := by unfold Lib.decDigits; rfl
theorem d2 : Lib.decDigits 2 = [50] := by unfold Lib.decDigits; rfl
theorem d3 : Lib.decDigits 3 = [51] := by unfold Lib.decDigits; rfl
theorem Blk.strs {w : World} {b : Nat} {l : List ByteArray} (h : Blk w b (l.map Value.string) 9) (hs : ∀ x ∈ l, x.size ≤ 1000) (hl : l.length ≤ 1000) : Strs w (.slice (some ⟨b, 0, none⟩) l.length l.length) l := by
  refine ⟨⟨_, l.length, rfl, Nat.le_refl _, by unfold maxLen; omega, by omega, fun _ => ⟨b, 0, rfl, h.lt, fun i hi => ?_⟩⟩, fun i => ?_⟩
  · rw [Nat.zero_add, h.cell]
    simp [ixS, List.getD_eq_getElem?_getD, hi]
  · unfold ixS
    rw [List.getD_eq_getElem?_getD]
    cases e : l[i]? with
    | none => decide
    | some x =>
      have := hs x (List.mem_of_getElem? e)
      simp only [Option.getD_some]
      omega
theorem Blk.rules {w : World} {b : Nat} {L : List RQ} (h : Blk w b (L.flatMap cells6) 66) (hs : ∀ q ∈ L, RuleSl w q.1 q.2.1 q.2.2.1 q.2.2.2) (hl : L.length ≤ 1000) : RulesIs w (.slice (some ⟨b, 0, none⟩) L.length L.length) (L.map (·.1)) := by
  have hg : ∀ i, i < L.length → L.getD i default ∈ L := fun i hi => by
    rw [List.getD_eq_getElem?_getD, List.getElem?_eq_getElem hi]
    exact List.getElem_mem hi
  have hx : ∀ i, i < L.length → ixR (L.map (·.1)) i = (L.getD i default).1 := fun i hi => by
    simp [ixR, List.getD_eq_getElem?_getD, hi]
  refine ⟨fun i => (L.getD i default).2.1, fun i => (L.getD i default).2.2.1, fun i => (L.getD i default).2.2.2, ⟨_, L.length, by rw [List.length_map], by rw [List.length_map]; exact Nat.le_refl _, by unfold maxLen; omega, by rw [List.length_map]; omega, fun _ => ⟨b, 0, rfl, h.lt, fun i hi j hj => ?_⟩⟩, fun i hi => ?_⟩
  · rw [List.length_map] at hi
    show _ = some (ruleCell (ixR (L.map (·.1)) i) (L.getD i default).2.1 (L.getD i default).2.2.1 (L.getD i default).2.2.2 j)
    rw [h.cell, hx i hi, Nat.zero_add, flat6 L i j hi hj]
    rcases (show j = 0 ∨ j = 1 ∨ j = 2 ∨ j = 3 ∨ j = 4 ∨ j = 5 by omega) with rfl | rfl | rfl | rfl | rfl | rfl <;> rfl
  · rw [List.length_map] at hi
    rw [hx i hi]
    exact hs _ (hg i hi)
theorem nil_mins (w : World) : MinsIs w (.slice none 0 0) [] := ⟨fun _ => undef, fun _ => undef, ⟨none, 0, rfl, Nat.le_refl _, by unfold maxLen; omega, by simp, fun h => absurd h (by simp)⟩, fun i hi => absurd hi (by simp)⟩
theorem inI_small {x : Int} (h : -1000000 ≤ x ∧ x ≤ 1000000) : InI x := by unfold InI; omega
structure RA (w : World) (fv : Value) (rb : Nat) (v1 v2 : Value) (la lb : List Int) (b bd rest x y : Int) (vals : Nat → Value) (L : Nat → Bool) (wx : World) : Prop where
  below : Below w.heap.size w wx
  t0 : L 0 = true → vals 0 = fv
  t1 : L 1 = true → vals 1 = .pointer (some ⟨rb, 4, none⟩)
  t2 : L 2 = true → vals 2 = v1
  t4 : L 4 = true → vals 4 = .int .i64 b
  t5 : L 5 = true → vals 5 = .int .i64 x
  t8 : L 8 = true → vals 8 = .pointer (some ⟨rb, 5, none⟩)
  t9 : L 9 = true → vals 9 = v2
  t11 : L 11 = true → vals 11 = .pointer (some ⟨rb, 3, none⟩)
  t12 : L 12 = true → vals 12 = .int .i64 bd
  t15 : L 15 = true → vals 15 = .pointer (some ⟨rb, 3, none⟩)
  t16 : L 16 = true → vals 16 = .int .i64 bd
  ra : L 3 = true → QRow w.heap.size wx (if L 7 then vals 7 else vals 3) (if L 7 then la ++ [x] else la)
  rb : L 10 = true → QRow w.heap.size wx (if L 14 then vals 14 else vals 10) (if L 14 then lb ++ [y] else lb)
  far : L 3 = true → L 10 = true → Far (if L 7 then vals 7 else vals 3) (if L 14 then vals 14 else vals 10)
  sa : L 6 = true → L 7 = false → ∃ g, vals 6 = .slice (some ⟨g, 0, none⟩) 1 1 ∧ Blk wx g [.int .i64 x] 3
  sb : L 13 = true → L 14 = false → ∃ g, vals 13 = .slice (some ⟨g, 0, none⟩) 1 1 ∧ Blk wx g [.int .i64 y] 3 ∧ (L 3 = true → (if L 7 then vals 7 else vals 3).ownBlock ≠ some g)
section
variable {w : World} {fv : Value} {rb : Nat} {v1 v2 : Value} {la lb : List Int} {b bd rest x y : Int} {vals : Nat → Value} {L : Nat → Bool} {wx w' : World} {v : Value}
theorem RA.start : RA w fv rb v1 v2 la lb b bd rest x y (fun _ => undef) (fun _ => false) w.drew := by
  constructor <;> first | exact (Below.refl _ _).drew | (intro h; cases h)
def RA.val (fv : Value) (rb : Nat) (v1 v2 : Value) (b bd _rest x _y : Int) : Nat → Value
  | 0 => fv
  | 1 => .pointer (some ⟨rb, 4, none⟩)
  | 2 => v1
  | 4 => .int .i64 b
  | 5 => .int .i64 x
  | 8 => .pointer (some ⟨rb, 5, none⟩)
  | 9 => v2
  | 11 => .pointer (some ⟨rb, 3, none⟩)
  | 12 => .int .i64 bd
  | 15 => .pointer (some ⟨rb, 3, none⟩)
  | 16 => .int .i64 bd
  | _ => undef
theorem RA.quiet (h : RA w fv rb v1 v2 la lb b bd rest x y vals L wx) (i : Nat) (hi : i = 0 ∨ i = 1 ∨ i = 2 ∨ i = 4 ∨ i = 5 ∨ i = 8 ∨ i = 9 ∨ i = 11 ∨ i = 12 ∨ i = 15 ∨ i = 16) : RA w fv rb v1 v2 la lb b bd rest x y (updN vals i (RA.val fv rb v1 v2 b bd rest x y i)) (updN L i true) wx := by
  obtain ⟨h0, t0, t1, t2, t4, t5, t8, t9, t11, t12, t15, t16, ra, rbb, far, sa, sb⟩ := h
  rcases hi with rfl | rfl | rfl | rfl | rfl | rfl | rfl | rfl | rfl | rfl | rfl <;> constructor <;> first | (simp [updN, RA.val]; done) | simpa [updN] using h0 | simpa [updN] using t0 | simpa [updN] using t1 | simpa [updN] using t2 | simpa [updN] using t4 | simpa [updN] using t5 | simpa [updN] using t8 | simpa [updN] using t9 | simpa [updN] using t11 | simpa [updN] using t12 | simpa [updN] using t15 | simpa [updN] using t16 | simpa [updN] using ra | simpa [updN] using rbb | simpa [updN] using far | simpa [updN] using sa | simpa [updN] using sb
theorem RA.callA (h : RA w fv rb v1 v2 la lb b bd rest x y vals L wx) (_hA : L 3 = false) (hAA : L 7 = false) (hB : L 10 = false) (_hBB : L 14 = false) (hb : Below wx.heap.size wx w') (hq : QRow wx.heap.size w' v la) : RA w fv rb v1 v2 la lb b bd rest x y (updN vals 3 v) (updN L 3 true) w' := by
  have hs := h.below.size
  constructor
  · exact bon h.below hb
  · simpa [updN] using h.t0
  · simpa [updN] using h.t1
  · simpa [updN] using h.t2
  · simpa [updN] using h.t4
  · simpa [updN] using h.t5
  · simpa [updN] using h.t8
  · simpa [updN] using h.t9
  · simpa [updN] using h.t11
  · simpa [updN] using h.t12
  · simpa [updN] using h.t15
  · simpa [updN] using h.t16
  · intro _; simpa [updN, hAA] using hq.mono hs
  · intro e; simp [updN, hB] at e
  · intro _ e; simp [updN, hB] at e
  · intro e1 e2; simp only [updN, Nat.reduceEqDiff, if_false] at e1 e2; obtain ⟨g, e, k⟩ := h.sa e1 e2; exact ⟨g, by simpa [updN] using e, k.below hb⟩
  · intro e1 e2; simp only [updN, Nat.reduceEqDiff, if_false] at e1 e2; obtain ⟨g, e, k, -⟩ := h.sb e1 e2; refine ⟨g, by simpa [updN] using e, k.below hb, fun _ e3 => ?_⟩; simp only [updN, Nat.reduceEqDiff, if_true, if_false, hAA] at e3; have := (hq.base e3).1; have := k.lt; omega
theorem RA.buildA (h : RA w fv rb v1 v2 la lb b bd rest x y vals L wx) (_hAA : L 7 = false) : RA w fv rb v1 v2 la lb b bd rest x y (updN vals 6 (.slice (some ⟨wx.heap.size, 0, none⟩) 1 1)) (updN L 6 true) (wx.alloc (.cells #[.int .i64 x] 3)) := by
  have hb := bal (Below.refl wx.heap.size wx) (.cells #[.int .i64 x] 3)
  constructor
  · exact bon h.below hb
  · simpa [updN] using h.t0
  · simpa [updN] using h.t1
  · simpa [updN] using h.t2
  · simpa [updN] using h.t4
  · simpa [updN] using h.t5
  · simpa [updN] using h.t8
  · simpa [updN] using h.t9
  · simpa [updN] using h.t11
  · simpa [updN] using h.t12
  · simpa [updN] using h.t15
  · simpa [updN] using h.t16
  · intro e; simpa [updN] using (h.ra (by simpa [updN] using e)).below hb
  · intro e; simpa [updN] using (h.rb (by simpa [updN] using e)).below hb
  · simpa [updN] using h.far
  · intro _ _; exact ⟨_, by simp [updN], Blk.new wx [.int .i64 x] _⟩
  · intro e1 e2; simp only [updN, Nat.reduceEqDiff, if_false] at e1 e2; obtain ⟨g, e, k, k2⟩ := h.sb e1 e2; exact ⟨g, by simpa [updN] using e, k.below hb, by simpa [updN] using k2⟩
theorem RA.appA (h : RA w fv rb v1 v2 la lb b bd rest x y vals L wx) (hA : L 3 = true) (hAA : L 7 = false) (hB : L 10 = false) (_hBB : L 14 = false) (hq : QRow w.heap.size w' v (la ++ [x])) (hg : wx.grownBy w' (vals 3).ownBlock) (ho : v.ownBlock = (vals 3).ownBlock ∨ v.ownBlock = some wx.heap.size) : RA w fv rb v1 v2 la lb b bd rest x y (updN vals 7 v) (updN L 7 true) w' := by
  have hra := h.ra hA
  simp only [hAA, Bool.false_eq_true, if_false] at hra
  have hbase := fun g e => hra.base (g := g) e
  constructor
  · exact h.below.trans (below_row hg h.below.size fun g e => (hbase g e).1)
  · simpa [updN] using h.t0
  · simpa [updN] using h.t1
  · simpa [updN] using h.t2
  · simpa [updN] using h.t4
  · simpa [updN] using h.t5
  · simpa [updN] using h.t8
  · simpa [updN] using h.t9
  · simpa [updN] using h.t11
  · simpa [updN] using h.t12
  · simpa [updN] using h.t15
  · simpa [updN] using h.t16
  · intro _; simpa [updN] using hq
  · intro e; simp [updN, hB] at e
  · intro _ e; simp [updN, hB] at e
  · intro _ e; simp [updN] at e
  · intro e1 e2; simp only [updN, Nat.reduceEqDiff, if_false] at e1 e2; obtain ⟨g, e, k, k2⟩ := h.sb e1 e2; have k3 := k2 hA; simp only [hAA, Bool.false_eq_true, if_false] at k3; refine ⟨g, by simpa [updN] using e, k.same (hg.block g k.lt fun e3 => k3 e3.symm), fun _ e3 => ?_⟩; simp only [updN, if_true] at e3; rcases ho with ho | ho; (rw [ho] at e3; exact k3 e3); (rw [ho] at e3; have := k.lt; have := Option.some.inj e3; omega)
theorem RA.callB (h : RA w fv rb v1 v2 la lb b bd rest x y vals L wx) (hA : L 3 = true) (hAA : L 7 = true) (_hB : L 10 = false) (hBB : L 14 = false) (hb : Below wx.heap.size wx w') (hq : QRow wx.heap.size w' v lb) : RA w fv rb v1 v2 la lb b bd rest x y (updN vals 10 v) (updN L 10 true) w' := by
  have hra := h.ra hA
  have hs := h.below.size
  simp only [hAA, if_true] at hra
  constructor
  · exact bon h.below hb
  · simpa [updN] using h.t0
  · simpa [updN] using h.t1
  · simpa [updN] using h.t2
  · simpa [updN] using h.t4
  · simpa [updN] using h.t5
  · simpa [updN] using h.t8
  · simpa [updN] using h.t9
  · simpa [updN] using h.t11
  · simpa [updN] using h.t12
  · simpa [updN] using h.t15
  · simpa [updN] using h.t16
  · intro _; simpa [updN, hAA] using hra.below hb
  · intro _; simpa [updN, hBB] using hq.mono hs
  · intro _ _ g e1 e2; simp only [updN, Nat.reduceEqDiff, if_true, if_false, hAA, hBB, Bool.false_eq_true] at e1 e2; have := (hra.base e1).2; have := (hq.base e2).1; omega
  · intro e1 e2; simp [updN, hAA] at e2
  · intro e1 e2; simp only [updN, Nat.reduceEqDiff, if_false] at e1 e2; obtain ⟨g, e, k, k2⟩ := h.sb e1 e2; exact ⟨g, by simpa [updN] using e, k.below hb, by simpa [updN] using k2⟩
theorem RA.buildB (h : RA w fv rb v1 v2 la lb b bd rest x y vals L wx) (_hBB : L 14 = false) : RA w fv rb v1 v2 la lb b bd rest x y (updN vals 13 (.slice (some ⟨wx.heap.size, 0, none⟩) 1 1)) (updN L 13 true) (wx.alloc (.cells #[.int .i64 y] 3)) := by
  have hb := bal (Below.refl wx.heap.size wx) (.cells #[.int .i64 y] 3)
  constructor
  · exact bon h.below hb
  · simpa [updN] using h.t0
  · simpa [updN] using h.t1
  · simpa [updN] using h.t2
  · simpa [updN] using h.t4
  · simpa [updN] using h.t5
  · simpa [updN] using h.t8
  · simpa [updN] using h.t9
  · simpa [updN] using h.t11
  · simpa [updN] using h.t12
  · simpa [updN] using h.t15
  · simpa [updN] using h.t16
  · intro e; simpa [updN] using (h.ra (by simpa [updN] using e)).below hb
  · intro e; simpa [updN] using (h.rb (by simpa [updN] using e)).below hb
  · simpa [updN] using h.far
  · intro e1 e2; simp only [updN, Nat.reduceEqDiff, if_false] at e1 e2; obtain ⟨g, e, k⟩ := h.sa e1 e2; exact ⟨g, by simpa [updN] using e, k.below hb⟩
  · intro _ _; refine ⟨_, by simp [updN], Blk.new wx [.int .i64 y] _, fun e e2 => ?_⟩; have e3 : L 3 = true := (by simpa [updN] using e); have hr := h.ra e3; have e4 : (if L 7 then vals 7 else vals 3).ownBlock = some wx.heap.size := (by simpa [updN] using e2); have := (hr.base e4).2; omega
theorem RA.appB (h : RA w fv rb v1 v2 la lb b bd rest x y vals L wx) (hA : L 3 = true) (hAA : L 7 = true) (hB : L 10 = true) (hBB : L 14 = false) (hq : QRow w.heap.size w' v (lb ++ [y])) (hg : wx.grownBy w' (vals 10).ownBlock) (ho : v.ownBlock = (vals 10).ownBlock ∨ v.ownBlock = some wx.heap.size) : RA w fv rb v1 v2 la lb b bd rest x y (updN vals 14 v) (updN L 14 true) w' := by
  have hra := h.ra hA
  have hrb := h.rb hB
  have hf := h.far hA hB
  simp only [hAA, hBB, Bool.false_eq_true, if_true, if_false] at hra hrb hf
  have hbase := fun g e => hrb.base (g := g) e
  constructor
  · exact h.below.trans (below_row hg h.below.size fun g e => (hbase g e).1)
  · simpa [updN] using h.t0
  · simpa [updN] using h.t1
  · simpa [updN] using h.t2
  · simpa [updN] using h.t4
  · simpa [updN] using h.t5
  · simpa [updN] using h.t8
  · simpa [updN] using h.t9
  · simpa [updN] using h.t11
  · simpa [updN] using h.t12
  · simpa [updN] using h.t15
  · simpa [updN] using h.t16
  · intro _; have := hra.kept (w' := w') (fun i _ hi hv => hg.block i hi fun e => hf i hv e.symm); simpa [updN, hAA] using this
  · intro _; simpa [updN] using hq
  · intro _ _ g e1 e2; simp only [updN, Nat.reduceEqDiff, if_true, if_false, hAA] at e1 e2; rcases ho with ho | ho; (rw [ho] at e2; exact hf g e1 e2); (rw [ho] at e2; have := (hra.base e1).2; have := Option.some.inj e2; omega)
  · intro _ e; simp [updN, hAA] at e
  · intro _ e; simp [updN] at e
def RA.J (w : World) (fv : Value) (rb : Nat) (v1 v2 : Value) (la lb : List Int) (b bd rest x y : Int) (Fin : World → Prop) (vals : Nat → Value) (L : Nat → Bool) (wx : World) : Prop := if L 17 then Fin wx else RA w fv rb v1 v2 la lb b bd rest x y vals L wx
variable {Fin : World → Prop} {i : Nat}
theorem RA.start0 : RA.J w fv rb v1 v2 la lb b bd rest x y Fin (fun _ => undef) (fun _ => false) w.drew := RA.start
theorem RA.J.out (hz : L 17 = false) (h : RA.J w fv rb v1 v2 la lb b bd rest x y Fin vals L wx) : RA w fv rb v1 v2 la lb b bd rest x y vals L wx := by unfold RA.J at h; rw [hz] at h; exact h
theorem RA.J.on (hz : L 17 = false) (hi : i ≠ 17) (h : RA w fv rb v1 v2 la lb b bd rest x y (updN vals i v) (updN L i true) wx) : RA.J w fv rb v1 v2 la lb b bd rest x y Fin (updN vals i v) (updN L i true) wx := by
  have e : updN L i true 17 = false := by simp only [updN]; rw [if_neg (Ne.symm hi)]; exact hz
  unfold RA.J; rw [e]; exact h
theorem RA.J.end (h : Fin wx) : RA.J w fv rb v1 v2 la lb b bd rest x y Fin (updN vals 17 v) (updN L 17 true) wx := by
  have e : updN L 17 true 17 = true := by simp [updN]
  unfold RA.J; rw [e]; exact h
theorem RA.J.fin (hz : L 17 = true) (h : RA.J w fv rb v1 v2 la lb b bd rest x y Fin vals L wx) : Fin wx := by unfold RA.J at h; rw [hz] at h; exact h
end
end Go.Proofs.YteblddnoegbalaaGreat
