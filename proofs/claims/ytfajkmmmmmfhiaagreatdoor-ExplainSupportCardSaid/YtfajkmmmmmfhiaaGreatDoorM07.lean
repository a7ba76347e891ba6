/- My texts Plain2, Gain, New2, Plain3, MoreP, Lp11, StabP, Ex0, Shelf, merged. -/
import Derived.Test.YtfajkmmmmmfhiaaGreatDoorM06
import Derived.Test.YtfajkmmmmmfhiaaGreatDoorM04
import Derived.Test.YtfajkmmmmmfhiaaGreatDoorM03
import Derived.Test.YtfajkmmmmmfhiaaGreatDoorM00
import Derived.Test.YtfajkmmmmmfhiaaGreatDoorProg
import Derived.WalkKit
import Derived.Lib.Hide
import Derived.Deep.QuietTactic
import Derived.BigQuiet
import Derived.Lib.Bytealg
import Derived.MapKept
import Derived.Maps.OwnSet
import Derived.Maps.OwnOps
import Derived.WalkSpells
import Derived.Lib.SliceRun
import Derived.Test.YtfajkmmmmmfhiaaGreatDoorM02
import Derived.Test.YtfajkmmmmmfhiaaGreatDoorM01
import Derived.Deep.AppendLies
import Derived.Deep.DeepCutAuto
import Derived.Deep.LoopGhost
import Derived.Deep.RegionWith
import Derived.Deep.DrawnRows
import Derived.Test.YtfajkmmmmmfhiaaGreatDoorM05
import Derived.Deep.OwnRows
import Derived.RangeFuncNested
import Derived.RangeFuncBound
import Derived.RangeFuncCalls
import Derived.RangeFuncLeaves
import Derived.OwnWalkIn
import Derived.TacticsInMore
import Derived.LoopNIn
import Derived.LoopIn
import Derived.Stop.RegionWithIn
import Derived.Shelf.Abstract
import Derived.Laws.EntriesVeiled
import Derived.Shelf.Sort.Plain
import Derived.Shelf.Slices.CompactI
import Derived.Shelf.Slices.In.SortNone
import Derived.Shelf.Strconv.Itoa3
import Derived.Shelf.Strings.BuilderK
import Derived.Shelf.Slices.SearchI
import Derived.Shelf.Slices.Empties

namespace Go.Proofs.YtfajkmmmmmfhiaaGreatDoor
open Go.RowKit
def InHead (p : GP) (i x : Int) : Prop := 0 ≤ i ∧ i < p.rules.length ∧ x ∈ (ixR p.rules i.toNat).head
def InBody (p : GP) (i x : Int) : Prop := 0 ≤ i ∧ i < p.rules.length ∧ x ∈ (ixR p.rules i.toNat).body
def avB (p : GP) (a : List Int) (F K : Int → Int) (i before : Int) : Bool := availB p a F K i.toNat before
def SInv (p : GP) (F K : Int → Int) (clock : Int) : Prop :=
  ∀ x, F x = 0 ∨ (0 < F x ∧ 1 ≤ x ∧ x ≤ p.n ∧ InHead p (F x - 1) x ∧ 1 ≤ K x ∧ K x ≤ clock)
theorem cntF_le (F : Int → Int) : ∀ n, cntF F n ≤ n
  | 0 => Nat.le_refl _
  | n + 1 => by have := cntF_le F n; unfold cntF; split <;> omega
theorem setI_eq (F : Int → Int) (x v : Int) : setI F x v x = v := by simp [setI]
theorem setI_ne (F : Int → Int) {x y : Int} (v : Int) (h : y ≠ x) : setI F x v y = F y := by simp [setI, h]
theorem cntF_set_out (F : Int → Int) (x v : Int) : ∀ n : Nat, (n : Int) < x → cntF (setI F x v) n = cntF F n
  | 0, _ => rfl
  | n + 1, h => by
    unfold cntF
    rw [cntF_set_out F x v n (by omega), setI_ne F v (by omega)]
theorem cntF_up (F : Int → Int) (x v : Int) (h0 : ¬ 0 < F x) (hv : 0 < v) : ∀ n : Nat, 1 ≤ x → x ≤ n → cntF (setI F x v) n = cntF F n + 1
  | 0, h1, h2 => by omega
  | n + 1, h1, h2 => by
    unfold cntF
    by_cases e : x = (n : Int) + 1
    · subst e
      rw [cntF_set_out F _ v n (by omega), setI_eq, if_pos hv, if_neg h0]
    · rw [cntF_up F x v h0 hv n h1 (by omega), setI_ne F v (fun e' => e e'.symm)]
      omega
theorem cntF_down (F : Int → Int) (x : Int) (h0 : 0 < F x) : ∀ n : Nat, 1 ≤ x → x ≤ n → cntF (setI F x 0) n + 1 = cntF F n
  | 0, h1, h2 => by omega
  | n + 1, h1, h2 => by
    unfold cntF
    by_cases e : x = (n : Int) + 1
    · subst e
      rw [cntF_set_out F _ 0 n (by omega), setI_eq, if_neg (by omega), if_pos h0]
    · have := cntF_down F x h0 n h1 (by omega)
      rw [setI_ne F 0 (fun e' => e e'.symm)]
      omega
section avail
variable {p : GP} {a : List Int} {F K F' K' : Int → Int}
theorem avSum_congr {r : GR} {b b' : Int} (h : ∀ l ∈ r.body, holdsB a F K b l = holdsB a F' K' b' l) : ∀ k, k ≤ r.body.length → avSum r a F K b k = avSum r a F' K' b' k
  | 0, _ => rfl
  | k + 1, hk => by
    unfold avSum
    rw [avSum_congr h k (by omega), h (ix r.body k) (by
      have e : ix r.body k = r.body[k] := by simp [ix, List.getD_eq_getElem?_getD, List.getElem?_eq_getElem (show k < r.body.length by omega)]
      rw [e]; exact List.getElem_mem (by omega))]
theorem avB_congr {i b b' : Int} (h : ∀ l ∈ (ixR p.rules i.toNat).body, holdsB a F K b l = holdsB a F' K' b' l) : avB p a F K i b = avB p a F' K' i b' := by
  unfold avB availB
  rw [avSum_congr h _ (Nat.le_refl _)]
  congr 2
  have e : ∀ k, k < (ixR p.rules i.toNat).body.length → holdsB a F K b (ix (ixR p.rules i.toNat).body k) = holdsB a F' K' b' (ix (ixR p.rules i.toNat).body k) := fun k hk => h _ (by
    have e : ix (ixR p.rules i.toNat).body k = (ixR p.rules i.toNat).body[k] := by simp [ix, List.getD_eq_getElem?_getD, List.getElem?_eq_getElem hk]
    rw [e]; exact List.getElem_mem hk)
  unfold allR
  rw [Bool.eq_iff_iff]
  simp only [List.all_eq_true, List.mem_range]
  constructor
  · intro h1 k hk; rw [← e k hk]; exact h1 k hk
  · intro h1 k hk; rw [e k hk]; exact h1 k hk
theorem avB_away {i b x u v : Int} (h : x ∉ (ixR p.rules i.toNat).body) : avB p a (setI F x u) (setI K x v) i b = avB p a F K i b :=
  avB_congr fun l hl => by
    have : l ≠ x := fun e => h (e ▸ hl)
    unfold holdsB
    rw [setI_ne F u this, setI_ne K v this]
theorem avB_new {i b x u c : Int} (h0 : ¬ 0 < F x) (hb : b ≤ c) : avB p a (setI F x u) (setI K x c) i b = avB p a F K i b :=
  avB_congr fun l hl => by
    unfold holdsB
    by_cases e : l = x
    · subst e
      rw [setI_eq, setI_eq]
      have h1 : decide (c < b) = false := decide_eq_false (by omega)
      have h2 : decide (0 < F l) = false := decide_eq_false h0
      rw [h1, h2]; simp
    · rw [setI_ne F u e, setI_ne K c e]
theorem avB_time {i b b' clock : Int} (h : SInv p F K clock) (hb : clock < b) (hb' : clock < b') : avB p a F K i b = avB p a F K i b' :=
  avB_congr fun l hl => by
    unfold holdsB
    rcases h l with h1 | h1
    · rw [h1]; simp
    · have h2 : decide (K l < b) = true := decide_eq_true (by omega)
      have h3 : decide (K l < b') = true := decide_eq_true (by omega)
      rw [h2, h3]
end avail
structure LI (p : GP) (a : List Int) (F K : Int → Int) (clock : Int) (l : List Int) (X : Int) (R : Int → Int → Prop) : Prop where
  inv : SInv p F K clock
  off : ∀ z, 0 < F z → z < X → offB a z = false
  ok : ∀ z, 0 < F z → avB p a F K (F z - 1) (K z) = true ∨ (∃ y ∈ l, InBody p (F z - 1) y) ∨ R z (F z - 1)
  q : ∀ y ∈ l, 1 ≤ y ∧ y ≤ p.n
  cnt : (cntF F p.n.toNat + l.length : Int) ≤ p.n
section lose
variable {p : GP} {a l : List Int} {F K : Int → Int} {clock X X' : Int} {R R' : Int → Int → Prop}
theorem LI.start (h : SInv p F K clock) (hn : 0 ≤ p.n) : LI p a F K clock [] 1 (fun z _ => 1 ≤ z) := by
  refine ⟨h, fun z hz hx => ?_, fun z hz => .inr (.inr ?_), fun y hy => by simp at hy, ?_⟩
  · rcases h z with h1 | h1 <;> omega
  · rcases h z with h1 | h1 <;> omega
  · have := cntF_le F p.n.toNat; simp; omega
theorem LI.drop (h : LI p a F K clock l X R) (x : Int) (hx : 0 < F x) (hX : ∀ z, z < X' → z ≠ x → z < X) (hR : ∀ z i, z ≠ x → R z i → R' z i) : LI p a (setI F x 0) (setI K x 0) clock (l ++ [x]) X' R' := by
  have hi := h.inv x
  refine ⟨fun z => ?_, fun z hz hzx => ?_, fun z hz => ?_, fun y hy => ?_, ?_⟩
  · by_cases e : z = x
    · subst e; left; rw [setI_eq]
    · rw [setI_ne F 0 e, setI_ne K 0 e]; exact h.inv z
  · have e : z ≠ x := fun e => by subst e; rw [setI_eq] at hz; omega
    rw [setI_ne F 0 e] at hz
    exact h.off z hz (hX z hzx e)
  · have e : z ≠ x := fun e => by subst e; rw [setI_eq] at hz; omega
    rw [setI_ne F 0 e] at hz ⊢
    rw [setI_ne K 0 e]
    by_cases hb : x ∈ (ixR p.rules (F z - 1).toNat).body
    · right; left
      refine ⟨x, by simp, ?_⟩
      rcases h.inv z with h1 | h1
      · omega
      · have := h1.2.2.2.1; exact ⟨this.1, this.2.1, hb⟩
    · rw [avB_away hb]
      rcases h.ok z hz with h1 | ⟨y, h1, h2⟩ | h1
      · exact .inl h1
      · exact .inr (.inl ⟨y, by simp [h1], h2⟩)
      · exact .inr (.inr (hR z _ e h1))
  · simp only [List.mem_append, List.mem_singleton] at hy
    rcases hy with hy | rfl
    · exact h.q y hy
    · omega
  · have h2 := h.cnt
    have h3 := cntF_down F x hx p.n.toNat (by omega) (by omega)
    simp only [List.length_append, List.length_singleton]
    push_cast
    omega
theorem LI.keep (h : LI p a F K clock l X R) (hX : ∀ z, 0 < F z → z < X' → z < X ∨ offB a z = false) (hR : ∀ z, 0 < F z → R z (F z - 1) → avB p a F K (F z - 1) (K z) = true ∨ R' z (F z - 1)) : LI p a F K clock l X' R' := by
  refine ⟨h.inv, fun z hz hzx => ?_, fun z hz => ?_, h.q, h.cnt⟩
  · rcases hX z hz hzx with h1 | h1
    · exact h.off z hz h1
    · exact h1
  · rcases h.ok z hz with h1 | h1 | h1
    · exact .inl h1
    · exact .inr (.inl h1)
    · rcases hR z hz h1 with h2 | h2
      · exact .inl h2
      · exact .inr (.inr h2)
end lose
structure Lost (p : GP) (a : List Int) (F K : Int → Int) (clock : Int) : Prop where
  inv : SInv p F K clock
  off : ∀ z, 0 < F z → offB a z = false
  ok : ∀ z, 0 < F z → avB p a F K (F z - 1) (K z) = true
theorem LI.done {p : GP} {a : List Int} {F K : Int → Int} {clock X : Int} {R : Int → Int → Prop} (h : LI p a F K clock [] X R) (hX : p.n < X) (hR : ∀ z i, ¬ R z i) : Lost p a F K clock := by
  refine ⟨h.inv, fun z hz => h.off z hz ?_, fun z hz => ?_⟩
  · rcases h.inv z with h1 | h1 <;> omega
  · rcases h.ok z hz with h1 | ⟨y, h1, h2⟩ | h1
    · exact h1
    · simp at h1
    · exact absurd h1 (hR _ _)
structure GI (p : GP) (a : List Int) (F K : Int → Int) (clock C0 : Int) (l : List Int) (R : Int → Int → Prop) : Prop where
  lost : Lost p a F K clock
  cmp : ∀ z i, 1 ≤ z → z ≤ p.n → ¬ 0 < F z → offB a z = false → InHead p i z → avB p a F K i (clock + 1) = false ∨ (∃ y ∈ l, InBody p i y) ∨ R z i
  q : ∀ y ∈ l, 1 ≤ y ∧ y ≤ p.n
  cnt : l.length ≤ cntF F p.n.toNat
  clk : clock ≤ C0 + cntF F p.n.toNat
section gain
variable {p : GP} {a l : List Int} {F K : Int → Int} {clock C0 : Int} {R R' : Int → Int → Prop}
theorem GI.start (h : Lost p a F K clock) : GI p a F K clock clock [] (fun z _ => 1 ≤ z) :=
  ⟨h, fun z i h1 h2 h3 h4 h5 => .inr (.inr h1), fun y hy => by simp at hy, by simp, by omega⟩
theorem GI.push (h : GI p a F K clock C0 l R) (hc : 0 ≤ clock) (x i : Int) (h0 : ¬ 0 < F x) (hx : 1 ≤ x ∧ x ≤ p.n) (ho : offB a x = false) (hi : InHead p i x) (hav : avB p a F K i (clock + 1) = true) (hR : ∀ z j, z ≠ x → R z j → R' z j) :
    GI p a (setI F x (i + 1)) (setI K x (clock + 1)) (clock + 1) C0 (l ++ [x]) R' := by
  have hinv : SInv p (setI F x (i + 1)) (setI K x (clock + 1)) (clock + 1) := fun z => by
    by_cases e : z = x
    · subst e
      rw [setI_eq, setI_eq]
      have := hi.1
      exact .inr ⟨by omega, hx.1, hx.2, by rwa [show i + 1 - 1 = i by omega], by omega, by omega⟩
    · rw [setI_ne F _ e, setI_ne K _ e]
      rcases h.lost.inv z with h1 | h1
      · exact .inl h1
      · exact .inr ⟨h1.1, h1.2.1, h1.2.2.1, h1.2.2.2.1, h1.2.2.2.2.1, by omega⟩
  have hup := cntF_up F x (i + 1) h0 (by have := hi.1; omega) p.n.toNat hx.1 (by omega)
  refine ⟨⟨hinv, fun z hz => ?_, fun z hz => ?_⟩, fun z j h1 h2 h3 h4 h5 => ?_, fun y hy => ?_, ?_, ?_⟩
  · by_cases e : z = x
    · subst e; exact ho
    · rw [setI_ne F _ e] at hz; exact h.lost.off z hz
  · by_cases e : z = x
    · subst e
      rw [setI_eq, setI_eq, avB_new h0 (by omega), show i + 1 - 1 = i by omega]
      exact hav
    · rw [setI_ne F _ e] at hz ⊢
      rw [setI_ne K _ e]
      rcases h.lost.inv z with h1 | h1
      · omega
      · rw [avB_new h0 (by omega)]
        exact h.lost.ok z hz
  · have e : z ≠ x := fun e => by subst e; rw [setI_eq] at h3; have := hi.1; omega
    rw [setI_ne F _ e] at h3
    by_cases hb : x ∈ (ixR p.rules j.toNat).body
    · exact .inr (.inl ⟨x, by simp, h5.1, h5.2.1, hb⟩)
    · rw [avB_away hb, avB_time (b' := clock + 1) h.lost.inv (by omega) (by omega)]
      rcases h.cmp z j h1 h2 h3 h4 h5 with h6 | ⟨y, h6, h7⟩ | h6
      · exact .inl h6
      · exact .inr (.inl ⟨y, by simp [h6], h7⟩)
      · exact .inr (.inr (hR z j e h6))
  · simp only [List.mem_append, List.mem_singleton] at hy
    rcases hy with hy | rfl
    · exact h.q y hy
    · exact hx
  · have := h.cnt
    simp only [List.length_append, List.length_singleton]
    omega
  · have := h.clk
    rw [hup]; push_cast; omega
theorem GI.keep (h : GI p a F K clock C0 l R) (hR : ∀ z i, 1 ≤ z → z ≤ p.n → ¬ 0 < F z → offB a z = false → InHead p i z → R z i → avB p a F K i (clock + 1) = false ∨ R' z i) : GI p a F K clock C0 l R' := by
  refine ⟨h.lost, fun z i h1 h2 h3 h4 h5 => ?_, h.q, h.cnt, h.clk⟩
  rcases h.cmp z i h1 h2 h3 h4 h5 with h6 | h6 | h6
  · exact .inl h6
  · exact .inr (.inl h6)
  · rcases hR z i h1 h2 h3 h4 h5 h6 with h7 | h7
    · exact .inl h7
    · exact .inr (.inr h7)
end gain
structure Found (p : GP) (a : List Int) (F K : Int → Int) (clock : Int) : Prop where
  lost : Lost p a F K clock
  cmp : ∀ z i, 1 ≤ z → z ≤ p.n → ¬ 0 < F z → offB a z = false → InHead p i z → avB p a F K i (clock + 1) = false
theorem GI.done {p : GP} {a : List Int} {F K : Int → Int} {clock C0 : Int} {R : Int → Int → Prop} (h : GI p a F K clock C0 [] R) (hR : ∀ z i, ¬ R z i) : Found p a F K clock ∧ clock ≤ C0 + cntF F p.n.toNat := by
  refine ⟨⟨h.lost, fun z i h1 h2 h3 h4 h5 => ?_⟩, h.clk⟩
  rcases h.cmp z i h1 h2 h3 h4 h5 with h6 | ⟨y, h6, h7⟩ | h6
  · exact h6
  · simp at h6
  · exact absurd h6 (hR _ _)
def R3 (row : List Int) (k : Nat) (_ i : Int) : Prop := ∃ j, k ≤ j ∧ j < row.length ∧ i = ix row j
def R4 (row head : List Int) (k m : Nat) (z i : Int) : Prop := (i = ix row k ∧ ∃ j, m ≤ j ∧ j < head.length ∧ z = ix head j) ∨ ∃ j, k < j ∧ j < row.length ∧ i = ix row j
theorem ix_of_mem {l : List Int} {x : Int} (h : x ∈ l) : ∃ j, j < l.length ∧ x = ix l j := by
  obtain ⟨j, hj, e⟩ := List.mem_iff_getElem.1 h
  exact ⟨j, hj, by simp [ix, List.getD_eq_getElem?_getD, List.getElem?_eq_getElem hj, e]⟩
theorem R4.start {row head : List Int} {k : Nat} {z i : Int} (h : R3 row k z i) (hz : i = ix row k → z ∈ head) : R4 row head k 0 z i := by
  obtain ⟨j, h1, h2, h3⟩ := h
  rcases Nat.eq_or_lt_of_le h1 with rfl | h4
  · obtain ⟨m, h5, h6⟩ := ix_of_mem (hz h3)
    exact .inl ⟨h3, m, Nat.zero_le _, h5, h6⟩
  · exact .inr ⟨j, h4, h2, h3⟩
theorem R4.next {row head : List Int} {k m : Nat} {z i : Int} (h : R4 row head k m z i) : (z = ix head m ∧ i = ix row k) ∨ R4 row head k (m + 1) z i := by
  rcases h with ⟨h1, j, h2, h3, h4⟩ | h1
  · rcases Nat.eq_or_lt_of_le h2 with rfl | h5
    · exact .inl ⟨h4, h1⟩
    · exact .inr (.inl ⟨h1, j, h5, h3, h4⟩)
  · exact .inr (.inr h1)
theorem R4.done {row head : List Int} {k : Nat} {z i : Int} (h : R4 row head k head.length z i) : R3 row (k + 1) z i := by
  rcases h with ⟨h1, j, h2, h3, h4⟩ | ⟨j, h1, h2, h3⟩
  · omega
  · exact ⟨j, h1, h2, h3⟩
theorem R3.done {row : List Int} {z i : Int} : ¬ R3 row row.length z i := by
  rintro ⟨j, h1, h2, h3⟩; omega
theorem R3.start {p : GP} {R : Int → List Int} (h : RowsAt (fun x => decide (0 < x)) (fun i => (ixR p.rules i).body) p.rules.length 0 R) {y z i : Int} (hy : 1 ≤ y) (hb : InBody p i y) : R3 (R y) 0 z i := by
  have hm : i ∈ R y := ((h y).2 i).2 ⟨decide_eq_true (by omega), .inl hb⟩
  obtain ⟨j, h1, h2⟩ := ix_of_mem hm
  exact ⟨j, Nat.zero_le _, h1, h2⟩
section
variable {m : Nat} {s : SP} {p : GP} {F K : Int → Int} {clock : Int} {a : List Int} {w : World}
theorem GI.small {l : List Int} {C0 : Int} {R : Int → Int → Prop} (h : GI p a F K clock C0 l R) (hn : 0 ≤ p.n ∧ p.n ≤ 4000) (hC : C0 ≤ 2305843009213693952) : (l.length + 1) * 8 ≤ 140737488351232 ∧ clock < 4611686018427387904 ∧ l.length ≤ 4000 := by
  have h1 := cntF_le F p.n.toNat
  have h2 := h.cnt
  have h3 := h.clk
  omega
end
section
variable {κ : Nat → Tg} {t : Tg} {w w' : World} {H : Nat}
theorem RulesOwn.rulesA {v : Value} {L : List RQ} (h : RulesOwn κ H v L w) (l : List GR) (hl : L.map (·.1) = l) : RulesAt w v l (fun i => (L.getD i default).2.1) (fun i => (L.getD i default).2.2.1) (fun i => (L.getD i default).2.2.2) := by
  have hlen : l.length = L.length := by rw [← hl]; simp
  have hq : ∀ i, i < l.length → L.getD i default ∈ L ∧ (L.getD i default).1 = ixR l i := fun i hi => by
    have hi' : i < L.length := by omega
    have e : L.getD i default = L[i] := by simp [List.getD_eq_getElem?_getD, List.getElem?_eq_getElem hi']
    rw [e]
    refine ⟨List.getElem_mem hi', ?_⟩
    subst hl
    simp [ixR, List.getD_eq_getElem?_getD, List.getElem?_eq_getElem hi']
  refine ⟨?_, fun i hi => ?_⟩
  · rw [hlen]
    rcases h.row.2 with ⟨rfl, h0⟩ | ⟨g, cap, cur, rfl, hb, hg, hn, hm, hs, hx⟩
    · exact ⟨none, 0, by rw [h0], by omega, by unfold maxLen; omega, by omega, fun hp => by omega⟩
    · refine ⟨_, cap, rfl, hn, hm, h.fit, fun _ => ⟨g, 0, rfl, (Array.getElem?_eq_some_iff.1 hg).1, fun i hi j hj => ?_⟩⟩
      have h6 := flat6 L i j hi hj
      rw [← hx, List.getElem?_take_of_lt (by omega)] at h6
      rw [cell_of_row w g (0 + i * 6 + j) cur _ (0, 0) hg, Nat.zero_add]
      have e2 := (hq i (by omega)).2
      dsimp only
      rw [← e2]
      have : cur[i * 6 + j]? = cur.toList[i * 6 + j]? := by simp
      rw [this, h6]
      rcases (show j = 0 ∨ j = 1 ∨ j = 2 ∨ j = 3 ∨ j = 4 ∨ j = 5 by omega) with rfl | rfl | rfl | rfl | rfl | rfl <;> rfl
  · obtain ⟨hm, e⟩ := hq i hi
    have := h.each _ hm
    rw [← e]
    exact ⟨this.head.ints, this.body.ints, this.wts.ints, this.bound⟩
end
section mono
variable {p : GP} {a : List Int} {F K F' K' : Int → Int}
theorem avSum_mono {r : GR} {b b' : Int} (hw : ∀ k, k < r.w.length → 1 ≤ ix r.w k) (hl : r.w.length = r.body.length) (h : ∀ l ∈ r.body, holdsB a F K b l = true → holdsB a F' K' b' l = true) : ∀ k, k ≤ r.body.length → avSum r a F K b k ≤ avSum r a F' K' b' k
  | 0, _ => Int.le_refl _
  | k + 1, hk => by
    have h1 := avSum_mono hw hl h k (by omega)
    have h2 := hw k (by omega)
    have h3 := h (ix r.body k) (ix_mem (by omega))
    unfold avSum
    cases h4 : holdsB a F K b (ix r.body k) with
    | true => rw [h3 h4]; simp only [if_true]; omega
    | false =>
      simp only [Bool.false_eq_true, if_false]
      split <;> omega
theorem avB_mono {i : Int} {b b' : Int} (hv : validE p = 0) (hi : 0 ≤ i ∧ i < p.rules.length) (h : ∀ l ∈ (ixR p.rules i.toNat).body, holdsB a F K b l = true → holdsB a F' K' b' l = true) (hav : avB p a F K i b = true) : avB p a F' K' i b' = true := by
  unfold avB availB at *
  simp only [Bool.and_eq_true] at *
  refine ⟨hav.1, ?_⟩
  have h2 := hav.2
  have hil : i.toNat < p.rules.length := by omega
  cases hs : (ixR p.rules i.toNat).sum with
  | true =>
    rw [hs] at h2
    simp only [if_true, decide_eq_true_eq] at h2 ⊢
    obtain ⟨h3, h4, -⟩ := weights_sum ((validP hv).sum i.toNat hil hs)
    have := avSum_mono h4 (by omega) h _ (Nat.le_refl _)
    omega
  | false =>
    rw [hs] at h2
    simp only [Bool.false_eq_true, if_false] at h2 ⊢
    exact allR_true fun k hk => h _ (ix_mem hk) (allR_get h2 k hk)
end mono
def avS (p : GP) (a : List Int) (G : Int → Int) (i : Int) : Bool := avB p a G (fun _ => 0) i 1
theorem holds_set {a : List Int} {G : Int → Int} {l : Int} : holdsB a G (fun _ => 0) 1 l = (!offB a l && (decide (l < 0) || decide (0 < G l))) := by
  unfold holdsB
  have : decide ((0 : Int) < 1) = true := decide_eq_true (by omega)
  rw [this, Bool.and_true]
def Closed (p : GP) (a : List Int) (G : Int → Int) : Prop :=
  ∀ x i, 1 ≤ x → x ≤ p.n → offB a x = false → InHead p i x → avS p a G i = true → 0 < G x
structure IsFnd (p : GP) (a : List Int) (G : Int → Int) : Prop where
  dom : ∀ x, 0 < G x → 1 ≤ x ∧ x ≤ p.n
  closed : Closed p a G
  least : ∀ T, Closed p a T → ∀ x, 0 < G x → 0 < T x
theorem IsFnd.unique {p : GP} {a : List Int} {G G' : Int → Int} (h : IsFnd p a G) (h' : IsFnd p a G') (x : Int) : 0 < G x ↔ 0 < G' x :=
  ⟨h.least G' h'.closed x, h'.least G h.closed x⟩
structure Round (p : GP) (F K G0 G : Int → Int) (x : Int) : Prop where
  one : ∀ y, G y = 0 ∨ (G y = 1 ∧ 0 < F y)
  up : ∀ y, 0 < G0 y → 0 < G y
  done : ∀ y, 1 ≤ y → y < x → 0 < F y → (∀ l, 0 < F l → K l < K y → 0 < G0 l) → 0 < G y
section round
variable {p : GP} {a : List Int} {F K G0 G : Int → Int} {clock x : Int}
theorem Round.start (h : ∀ y, G y = 0 ∨ (G y = 1 ∧ 0 < F y)) : Round p F K G G 1 := ⟨h, fun _ h => h, fun y h1 h2 => by omega⟩
theorem Round.add (h : Round p F K G0 G x) (hF : 0 < F x) : Round p F K G0 (setI G x 1) (x + 1) := by
  refine ⟨fun y => ?_, fun y hy => ?_, fun y h1 h2 h3 h4 => ?_⟩ <;> by_cases e : y = x
  · subst e; rw [setI_eq]; exact .inr ⟨rfl, hF⟩
  · rw [setI_ne G _ e]; exact h.one y
  · subst e; rw [setI_eq]; omega
  · rw [setI_ne G _ e]; exact h.up y hy
  · subst e; rw [setI_eq]; omega
  · rw [setI_ne G _ e]; exact h.done y h1 (by omega) h3 h4
theorem Round.skip (hv : validE p = 0) (hl : Lost p a F K clock) (h : Round p F K G0 G x) (hs : ¬ 0 < F x ∨ 0 < G x ∨ avS p a G (F x - 1) = false) : Round p F K G0 G (x + 1) := by
  refine ⟨h.one, h.up, fun y h1 h2 h3 h4 => ?_⟩
  by_cases e : y = x
  · subst e
    rcases hs with h5 | h5 | h5
    · exact absurd h3 h5
    · exact h5
    · have hin : InHead p (F y - 1) y := by
        rcases hl.inv y with h6 | h6
        · omega
        · exact h6.2.2.2.1
      have : avS p a G (F y - 1) = true := avB_mono hv ⟨hin.1, hin.2.1⟩ (fun l hl hh => by
        rw [holds_set]
        unfold holdsB at hh
        simp only [Bool.and_eq_true, Bool.or_eq_true, decide_eq_true_eq] at hh ⊢
        exact ⟨hh.1, hh.2.imp id (fun h6 => h.up l (h4 l h6.1 h6.2))⟩) (hl.ok y h3)
      rw [h5] at this; cases this
  · exact h.done y h1 (by omega) h3 h4
end round
def posR (r : GR) : Bool := decide (r.head.length = 1) && !r.choice && allR r.body.length (fun k => decide (0 < ix r.body k))
def posRules (l : List GR) : List GR := l.filter posR
def GP.pos (p : GP) : GP := { p with rules := posRules p.rules }
theorem ixR_mem {l : List GR} {i : Nat} (hi : i < l.length) : ixR l i ∈ l := by
  have : ixR l i = l[i] := by simp [ixR, List.getD_eq_getElem?_getD, List.getElem?_eq_getElem hi]
  rw [this]; exact List.getElem_mem hi
theorem anyR_some {n : Nat} {f : Nat → Bool} (h : anyR n f = true) : ∃ k, k < n ∧ f k = true := by
  apply Classical.byContradiction
  intro hn
  rw [anyR_false (fun j hj => by
    cases e : f j with
    | false => rfl
    | true => exact absurd ⟨j, hj, e⟩ hn)] at h
  cases h
def posP (r : GR) : Nat → List (Int × Int)
  | 0 => []
  | k + 1 => if 0 < ix r.body k then posP r k ++ [(ix r.body k, ix r.w k)] else posP r k
def negW (m : List Int) (r : GR) : Nat → Int
  | 0 => 0
  | k + 1 => negW m r k + if ix r.body k < 0 ∧ -(ix r.body k) ∉ m then ix r.w k else 0
def fstL (l : List (Int × Int)) : List Int := l.map (·.1)
def sndL (l : List (Int × Int)) : List Int := l.map (·.2)
def redAt (m : List Int) (r : GR) (k : Nat) : GR := ⟨false, [], r.sum, r.bound - (if r.sum then negW m r k else 0), fstL (posP r k), if r.sum then sndL (posP r k) else []⟩
def hlT (T m : List Int) (l : Int) : Bool := if 0 < l then decide (l ∈ T) else !decide (-l ∈ m)
def avW (T m : List Int) (r : GR) : Nat → Int
  | 0 => 0
  | k + 1 => avW T m r k + if hlT T m (ix r.body k) then ix r.w k else 0
def avT (T m : List Int) (r : GR) : Bool := if r.sum then decide (r.bound ≤ avW T m r r.body.length) else allR r.body.length (fun j => hlT T m (ix r.body j))
theorem hlT_mono {T T' m : List Int} (h : ∀ x ∈ T, x ∈ T') {l : Int} (hl : hlT T m l = true) : hlT T' m l = true := by
  unfold hlT at *
  split at hl
  · rename_i h0
    rw [if_pos h0]
    exact decide_eq_true (h _ (of_decide_eq_true hl))
  · rename_i h0
    rw [if_neg h0]
    exact hl
theorem avW_mono {T T' m : List Int} {r : GR} (h : ∀ x ∈ T, x ∈ T') (hw : ∀ k, k < r.body.length → 0 ≤ ix r.w k) : ∀ k, k ≤ r.body.length → avW T m r k ≤ avW T' m r k
  | 0, _ => Int.le_refl _
  | k + 1, hk => by
    have ih := avW_mono (m := m) h hw k (by omega)
    have h0 := hw k (by omega)
    unfold avW
    by_cases e : hlT T m (ix r.body k) = true
    · rw [if_pos e, if_pos (hlT_mono h e)]; omega
    · rw [if_neg e]; split <;> omega
structure BodyW (r : GR) (n : Int) : Prop where
  v : BodyV r n
  lit : ∀ j, j < r.body.length → ix r.body j ≠ 0 ∧ -n ≤ ix r.body j ∧ ix r.body j ≤ n
  wts : r.sum = true → r.w.length = r.body.length ∧ ∀ k, k < r.body.length → 1 ≤ ix r.w k ∧ ix r.w k ≤ 1048576 - sumTo r.w k
  bound : r.bound ≤ 1048576
theorem BodyV.full {r : GR} {n : Int} (h : BodyV r n) (hb : r.bound ≤ 1048576) : BodyW r n where
  v := h
  lit := fun j hj => ordered_lit h.ord (ix_mem hj)
  wts := fun hs => by
    have := h.sum hs
    unfold weightsB at this
    rw [Bool.and_eq_true, decide_eq_true_eq] at this
    obtain ⟨h1, h2⟩ := this
    have h3 : r.w.length = r.body.length := by omega
    exact ⟨h3, fun k hk => of_decide_eq_true (allR_get h1 k (by omega))⟩
  bound := hb
theorem avT_mono {T T' m : List Int} {r : GR} {n : Int} (h : ∀ x ∈ T, x ∈ T') (hr : BodyW r n) (ha : avT T m r = true) : avT T' m r = true := by
  unfold avT at *
  cases hs : r.sum with
  | true =>
    rw [hs] at ha
    rw [if_pos rfl] at ha ⊢
    rw [decide_eq_true_eq] at ha ⊢
    exact Int.le_trans ha (avW_mono h (fun k hk => by have := ((hr.wts hs).2 k hk).1; omega) _ (Nat.le_refl _))
  | false =>
    rw [hs] at ha
    rw [if_neg (by simp)] at ha ⊢
    exact allR_true fun j hj => hlT_mono h (allR_get ha j hj)
theorem bodyW_valid {p : GP} (h : validE p = 0) : ∀ i, i < p.rules.length → BodyW (ixR p.rules i) p.n := fun _ hi =>
  (bodyV_valid h hi).full (rule_bound (ruleE_at h hi)).2
theorem rule_parts {r : GR} {n : Int} (h : ruleE r n = 0) : increasingB r.head n = true ∧ (r.sum = false → r.bound = 0) := by
  unfold ruleE at h
  split at h
  · cases h
  · split at h
    · cases h
    · split at h
      · cases h
      · split at h
        · cases h
        · rename_i h1 h2 h3 h4
          refine ⟨?_, fun hs => ?_⟩
          · cases hi : increasingB r.head n with
            | true => rfl
            | false => exact absurd (.inl hi) h2
          · by_cases e : r.bound = 0
            · exact e
            · exact absurd (.inl ⟨hs, .inr e⟩) h4
theorem setQ_sorted {n : Int} {m : List Int} (h : setQ n m = true) : m.Pairwise (· < ·) := by
  rw [List.pairwise_iff_getElem]
  have hs : ∀ d i, i + d + 1 < m.length → ix m i < ix m (i + d + 1) := by
    intro d
    induction d with
    | zero =>
      intro i hi
      have := allR_get h (i + 1) hi
      unfold setTo at this
      simp only [Bool.and_eq_true, Bool.or_eq_true, decide_eq_true_eq, beq_iff_eq] at this
      have h1 := this.2
      rw [Nat.add_sub_cancel] at h1
      exact h1.resolve_left (by omega)
    | succ d ih =>
      intro i hi
      have h1 := ih i (by omega)
      have := allR_get h (i + (d + 1) + 1) hi
      unfold setTo at this
      simp only [Bool.and_eq_true, Bool.or_eq_true, decide_eq_true_eq, beq_iff_eq] at this
      have h2 := this.2.resolve_left (by omega)
      rw [show i + (d + 1) + 1 - 1 = i + d + 1 by omega] at h2
      omega
  intro i j hi hj hij
  have e : ∀ k, (hk : k < m.length) → ix m k = m[k] := fun k hk => by simp [ix, List.getD_eq_getElem?_getD, List.getElem?_eq_getElem hk]
  rw [← e i hi, ← e j hj]
  have := hs (j - i - 1) i (by omega)
  rw [show i + (j - i - 1) + 1 = j by omega] at this
  exact this
theorem setQ_rng {n : Int} {m : List Int} (h : setQ n m = true) {x : Int} (hx : x ∈ m) : 1 ≤ x ∧ x ≤ n := by
  obtain ⟨j, hj, rfl⟩ := mem_ix.1 hx
  have := allR_get h j hj
  unfold setTo at this
  simp only [Bool.and_eq_true, decide_eq_true_eq] at this
  exact this.1
theorem sub_len : ∀ {a b : List Int}, a.Nodup → (∀ x ∈ a, x ∈ b) → a.length ≤ b.length
  | [], _, _, _ => Nat.zero_le _
  | x :: a, b, hn, h => by
    rw [List.nodup_cons] at hn
    have hx := h x (by simp)
    have := sub_len (b := b.erase x) hn.2 fun y hy => (List.mem_erase_of_ne (fun (e : y = x) => hn.1 (e ▸ hy))).2 (h y (by simp [hy]))
    rw [List.length_erase_of_mem hx] at this
    have := List.length_pos_of_mem hx
    rw [List.length_cons]; omega
theorem sub_perm : ∀ {a b : List Int}, a.Nodup → (∀ x ∈ a, x ∈ b) → b.length ≤ a.length → a.Perm b
  | [], b, _, _, hl => by
    have : b = [] := List.eq_nil_of_length_eq_zero (by simpa using hl)
    rw [this]
  | x :: a, b, hn, h, hl => by
    rw [List.nodup_cons] at hn
    have hx := h x (by simp)
    have h2 := sub_perm (b := b.erase x) hn.2 (fun y hy => (List.mem_erase_of_ne (fun (e : y = x) => hn.1 (e ▸ hy))).2 (h y (by simp [hy]))) (by
      rw [List.length_erase_of_mem hx]
      rw [List.length_cons] at hl
      omega)
    exact (h2.cons x).trans (List.perm_cons_erase hx).symm
structure WY where
  atom : Int
  rule : Int
  level : Int
  deriving Inhabited, DecidableEq
structure XP where
  whys : List WY
  rest : List Int
structure BK where
  rule : Int
  kind : Int
  lit : Int
  deriving Inhabited, DecidableEq
def ixY (l : List WY) (i : Nat) : WY := l.getD i default
def ixK (l : List BK) (i : Nat) : BK := l.getD i default
def xE (p : GP) (m : List Int) : Int := if validE p ≠ 0 then validE p else if setQ p.n m = true then (if modelsB p m = true then 0 else 410) else 2
theorem xE_ok {p : GP} {m : List Int} (h : xE p m = 0) : validE p = 0 ∧ setQ p.n m = true ∧ modelsB p m = true := by
  unfold xE at h
  split at h
  · rename_i h1; exact absurd h h1
  · rename_i h1
    have h1 := Decidable.not_not.1 h1
    split at h
    · rename_i h2
      split at h
      · rename_i h3; exact ⟨h1, h2, h3⟩
      · cases h
    · cases h
theorem xE_of {p : GP} {m : List Int} (h1 : validE p = 0) (h2 : setQ p.n m = true) (h3 : modelsB p m = true) : xE p m = 0 := by
  unfold xE; rw [if_neg (by simp [h1]), if_pos h2, if_pos h3]
def soleB (m : List Int) (r : GR) (a : Int) : Bool := r.choice || !anyR r.head.length (fun j => decide (ix r.head j ≠ a) && decide (ix r.head j ∈ m))
def derT (T m : List Int) (r : GR) (a : Int) : Bool := decide (a ∈ r.head) && (soleB m r a && avT T m r)
def lvF (ws : List WY) (x : Int) : Int := ws.foldl (fun v y => if y.atom = x then y.level else v) 0
theorem lvF_nil (x : Int) : lvF [] x = 0 := rfl
theorem lvF_snoc (ws : List WY) (y : WY) (x : Int) : lvF (ws ++ [y]) x = if y.atom = x then y.level else lvF ws x := by simp [lvF]
def lvL (N : Nat) (ws : List WY) : List Int := (List.range (N + 1)).map fun (j : Nat) => lvF ws j
theorem lvL_len (N : Nat) (ws : List WY) : (lvL N ws).length = N + 1 := by simp [lvL]
theorem lvL_ix {N : Nat} {ws : List WY} {j : Nat} (hj : j ≤ N) : ix (lvL N ws) j = lvF ws j := by
  unfold ix lvL
  rw [List.getD_eq_getElem?_getD, List.getElem?_map, List.getElem?_range (by omega)]
  rfl
theorem lvL_set {N : Nat} {ws : List WY} {y : WY} {j : Nat} (hj : y.atom = j) : (lvL N ws).set j y.level = lvL N (ws ++ [y]) := by
  apply List.ext_getElem (by simp [lvL])
  intro i h1 h2
  simp only [List.length_set, lvL_len] at h1
  rw [List.getElem_set]
  simp only [lvL, List.getElem_map, List.getElem_range, lvF_snoc, hj]
  by_cases e : j = i
  · subst e; simp
  · rw [if_neg e, if_neg (by omega)]
def lvT (m lv : List Int) (most : Int) : List Int := m.filter fun x => decide (1 ≤ ix lv x.toNat) && decide (ix lv x.toNat ≤ most)
def atomsY (ws : List WY) : List Int := ws.map (·.atom)
def firR (p : GP) (m T : List Int) (a : Int) : Option Nat := (List.range p.rules.length).find? fun i => derT T m (ixR p.rules i) a
def nowX (p : GP) (m T : List Int) (k : Int) (l : List Int) : List WY := l.filterMap fun a => (firR p m T a).map fun (i : Nat) => ⟨a, i, k⟩
def doneX (m : List Int) (ws : List WY) : List Int := m.filter fun a => decide (a ∈ atomsY ws)
def leftX (m : List Int) (ws : List WY) : List Int := m.filter fun a => decide (a ∉ atomsY ws)
def expX (p : GP) (m : List Int) : Nat → Nat → List WY → XP
  | 0, _, ws => ⟨ws, leftX m ws⟩
  | f + 1, k, ws => if nowX p m (doneX m ws) k (leftX m ws) = [] then ⟨ws, leftX m ws⟩ else expX p m f (k + 1) (ws ++ nowX p m (doneX m ws) k (leftX m ws))
def explX (p : GP) (m : List Int) : XP := expX p m m.length 1 []
structure RndX (p : GP) (m : List Int) (k : Nat) (ws : List WY) : Prop where
  pos : 1 ≤ k
  lev : ∀ y ∈ ws, 1 ≤ y.level ∧ y.level < k
  sub : ∀ y ∈ ws, y.atom ∈ m
  nod : (atomsY ws).Nodup
  fuel : ∃ f : Nat, expX p m f k ws = explX p m ∧ (leftX m ws).length ≤ f
theorem RndX.start (p : GP) (m : List Int) : RndX p m 1 [] :=
  ⟨Nat.le_refl _, fun _ h => absurd h List.not_mem_nil, fun _ h => absurd h List.not_mem_nil, List.nodup_nil, m.length, rfl, List.length_filter_le _ _⟩
theorem lvF_fold (x : Int) : ∀ (ws : List WY) (v : Int), (x ∉ atomsY ws ∧ ws.foldl (fun v y => if y.atom = x then y.level else v) v = v) ∨ ∃ y ∈ ws, y.atom = x ∧ y.level = ws.foldl (fun v y => if y.atom = x then y.level else v) v
  | [], v => .inl ⟨by simp [atomsY], rfl⟩
  | z :: ws, v => by
    rw [List.foldl_cons]
    rcases lvF_fold x ws (if z.atom = x then z.level else v) with ⟨h1, h2⟩ | ⟨y, h1, h2, h3⟩
    · by_cases e : z.atom = x
      · exact .inr ⟨z, by simp, e, by rw [h2, if_pos e]⟩
      · refine .inl ⟨?_, by rw [h2, if_neg e]⟩
        unfold atomsY at h1 ⊢
        rw [List.map_cons, List.mem_cons]
        rintro (h | h)
        · exact e h.symm
        · exact h1 h
    · exact .inr ⟨y, by simp [h1], h2, h3⟩
theorem lvF_mem {ws : List WY} {x : Int} (h : lvF ws x ≠ 0) : ∃ y ∈ ws, y.atom = x ∧ y.level = lvF ws x := by
  rcases lvF_fold x ws 0 with ⟨-, h2⟩ | h2
  · exact absurd h2 h
  · exact h2
theorem lvF_in {ws : List WY} {x : Int} (h : x ∈ atomsY ws) : ∃ y ∈ ws, y.atom = x ∧ y.level = lvF ws x := by
  rcases lvF_fold x ws 0 with ⟨h2, -⟩ | h2
  · exact absurd h h2
  · exact h2
theorem lvF_out {ws : List WY} {x : Int} (h : x ∉ atomsY ws) : lvF ws x = 0 := Classical.byContradiction fun h0 => by
  obtain ⟨y, h1, h2, -⟩ := lvF_mem h0
  exact h (List.mem_map.2 ⟨y, h1, h2⟩)
theorem RndX.lvT {p : GP} {m : List Int} {k : Nat} {ws : List WY} (h : RndX p m k ws) {N : Nat} (hm : ∀ x ∈ m, 1 ≤ x ∧ x ≤ N) : lvT m (lvL N ws) ((k : Int) - 1) = doneX m ws := by
  unfold Go.Proofs.YtfajkmmmmmfhiaaGreatDoor.lvT doneX
  refine List.filter_congr fun x hx => ?_
  have hr := hm x hx
  rw [lvL_ix (by omega), show ((x.toNat : Nat) : Int) = x by omega]
  by_cases hin : x ∈ atomsY ws
  · obtain ⟨y, h1, h2, h3⟩ := lvF_in hin
    have := h.lev y h1
    rw [← h3, decide_eq_true hin, decide_eq_true (by omega), decide_eq_true (by omega)]
    rfl
  · rw [lvF_out hin, decide_eq_false hin]; rfl
theorem RndX.left {p : GP} {m : List Int} {k : Nat} {ws : List WY} (h : RndX p m k ws) {x : Int} : decide (0 < lvF ws x) = decide (x ∈ atomsY ws) := by
  by_cases hin : x ∈ atomsY ws
  · obtain ⟨y, h1, h2, h3⟩ := lvF_in hin
    have := h.lev y h1
    rw [← h3, decide_eq_true hin, decide_eq_true (by omega)]
  · rw [lvF_out hin, decide_eq_false hin]; rfl
theorem nowX_mem {p : GP} {m T : List Int} {k : Int} {l : List Int} {y : WY} (h : y ∈ nowX p m T k l) : y.atom ∈ l ∧ y.level = k ∧ ∃ i : Nat, firR p m T y.atom = some i ∧ y.rule = i := by
  unfold nowX at h
  obtain ⟨a, ha, e⟩ := List.mem_filterMap.1 h
  obtain ⟨i, hi, rfl⟩ := Option.map_eq_some_iff.1 e
  exact ⟨ha, rfl, i, hi, rfl⟩
theorem nowX_atoms (p : GP) (m T : List Int) (k : Int) : ∀ l : List Int, (atomsY (nowX p m T k l)).Sublist l
  | [] => by simp [nowX, atomsY]
  | a :: l => by
    have ih := nowX_atoms p m T k l
    unfold nowX at ih ⊢
    rw [List.filterMap_cons]
    cases h : (firR p m T a).map fun (i : Nat) => (⟨a, i, k⟩ : WY) with
    | none => exact ih.trans (List.sublist_cons_self _ _)
    | some y =>
      obtain ⟨i, -, rfl⟩ := Option.map_eq_some_iff.1 h
      exact ih.cons_cons a
theorem leftX_step {m : List Int} {ws now : List WY} : leftX m (ws ++ now) = (leftX m ws).filter fun a => decide (a ∉ atomsY now) := by
  unfold leftX
  rw [List.filter_filter]
  refine List.filter_congr fun x _ => ?_
  unfold atomsY
  rw [List.map_append]
  simp only [List.mem_append, not_or, Bool.decide_and, Bool.and_comm]
theorem leftX_lt {p : GP} {m T : List Int} {k : Int} {ws : List WY} (hne : nowX p m T k (leftX m ws) ≠ []) : (leftX m (ws ++ nowX p m T k (leftX m ws))).length < (leftX m ws).length := by
  rw [leftX_step]
  obtain ⟨y, hy⟩ := List.exists_mem_of_ne_nil _ hne
  refine List.length_filter_lt_length_iff_exists.2 ⟨y.atom, (nowX_mem hy).1, ?_⟩
  have : y.atom ∈ atomsY (nowX p m T k (leftX m ws)) := List.mem_map.2 ⟨y, hy, rfl⟩
  simp [this]
theorem leftX_all {m : List Int} {ws now : List WY} : (leftX m ws).filter (fun a => decide (a ∉ atomsY (ws ++ now))) = leftX m (ws ++ now) := by
  unfold leftX
  rw [List.filter_filter]
  refine List.filter_congr fun x _ => ?_
  unfold atomsY
  rw [List.map_append]
  by_cases h : x ∈ List.map (fun y : WY => y.atom) ws
  · simp [h]
  · simp [h]
theorem RndX.next {p : GP} {m : List Int} {k : Nat} {ws : List WY} (h : RndX p m k ws) (hn : m.Nodup) (hne : nowX p m (doneX m ws) k (leftX m ws) ≠ []) : RndX p m (k + 1) (ws ++ nowX p m (doneX m ws) k (leftX m ws)) := by
  have hsub := nowX_atoms p m (doneX m ws) k (leftX m ws)
  refine ⟨by omega, fun y hy => ?_, fun y hy => ?_, ?_, ?_⟩
  · rcases List.mem_append.1 hy with hy | hy
    · have := h.lev y hy; omega
    · have := (nowX_mem hy).2.1; have := h.pos; omega
  · rcases List.mem_append.1 hy with hy | hy
    · exact h.sub y hy
    · exact (List.mem_filter.1 (nowX_mem hy).1).1
  · unfold atomsY at hsub ⊢
    rw [List.map_append, List.nodup_append]
    refine ⟨h.nod, (hn.sublist List.filter_sublist).sublist hsub, fun a ha b hb e => ?_⟩
    subst e
    have := (List.mem_filter.1 (hsub.subset hb)).2
    exact (of_decide_eq_true this) ha
  · obtain ⟨f, h1, h2⟩ := h.fuel
    have hlt := leftX_lt hne
    cases f with
    | zero => omega
    | succ f =>
      refine ⟨f, ?_, by omega⟩
      rw [← h1]
      exact (if_neg hne).symm
theorem RndX.done {p : GP} {m : List Int} {k : Nat} {ws : List WY} (h : RndX p m k ws) (he : nowX p m (doneX m ws) k (leftX m ws) = []) : explX p m = ⟨ws, leftX m ws⟩ := by
  obtain ⟨f, h1, h2⟩ := h.fuel
  rw [← h1]
  cases f with
  | zero => rfl
  | succ f => unfold expX; rw [if_pos he]
theorem RndX.size {p : GP} {m : List Int} {k : Nat} {ws : List WY} (h : RndX p m k ws) (_hn : m.Nodup) : ws.length ≤ m.length := by
  have : (atomsY ws).length ≤ m.length := by
    exact sub_len h.nod fun x hx => by
      obtain ⟨y, hy, rfl⟩ := List.mem_map.1 hx
      exact h.sub y hy
  unfold atomsY at this
  rwa [List.length_map] at this
def ordY (a b : WY) : Bool := decide (a.level < b.level) || (decide (a.level = b.level) && decide (a.atom ≤ b.atom))
def rngY (p : GP) (y : WY) : Bool := decide (1 ≤ y.atom) && (decide (y.atom ≤ p.n) && (decide (0 ≤ y.rule) && (decide (y.rule < p.rules.length) && decide (1 ≤ y.level))))
def chkX (p : GP) (m : List Int) (x : XP) : Bool :=
  allR x.whys.length (fun i => rngY p (ixY x.whys i)) && (decide ((x.rest ++ atomsY x.whys).Perm m) && (allR (x.rest.length - 1) (fun i => decide (ix x.rest i ≤ ix x.rest (i + 1))) && (allR (x.whys.length - 1) (fun i => ordY (ixY x.whys i) (ixY x.whys (i + 1))) &&
    allR x.whys.length (fun i => derT (lvT m (lvL p.n.toNat x.whys) ((ixY x.whys i).level - 1)) m (ixR p.rules (ixY x.whys i).rule.toNat) (ixY x.whys i).atom))))
def firI (f : Nat → Bool) (n : Nat) : Nat := ((List.range n).find? f).getD 0
def blkB (r : GR) (m : List Int) (i : Int) : BK :=
  if bodyT r m = false then (if r.sum then ⟨i, 2, 0⟩ else ⟨i, 1, ix r.body (firI (fun j => !litT m (ix r.body j)) r.body.length)⟩)
  else if r.choice then ⟨i, 4, 0⟩ else ⟨i, 3, ix r.head (firI (fun j => decide (ix r.head j ∈ m)) r.head.length)⟩
def blksTo (p : GP) (m : List Int) (a : Int) : Nat → List BK
  | 0 => []
  | k + 1 => if a ∈ (ixR p.rules k).head then blksTo p m a k ++ [blkB (ixR p.rules k) m k] else blksTo p m a k
def blksX (p : GP) (m : List Int) (a : Int) : List BK × Int :=
  if xE p m ≠ 0 then ([], xE p m) else if a < 1 ∨ p.n < a ∨ a ∈ m then ([], 2) else (blksTo p m a p.rules.length, 0)
end Go.Proofs.YtfajkmmmmmfhiaaGreatDoor
namespace Go.Proofs.YtfajkmmmmmfhiaaGreatDoor
open Go.Shelf
def Tryz.lays169_ren : Go.Shelf.Ren := ⟨fun | 169 => 63 | n => n, fun | 70 => 97 | 9 => 9 | 0 => 0 | 72 => 100 | 37 => 98 | 127 => 147 | 3 => 3 | 5 => 5 | n => n, fun | n => n⟩
theorem Tryz.lays169 : Go.Proofs.Lays.n169 Tryz.prog Tryz.lays169_ren := {
  mixed := by kernel_rfl
  f169 := Tryz.func63.trans (congrArg some (by kernel_rfl))
  t0 := Tryz.underlying0
  a0 := Tryz.isAgg0
  z0 := Tryz.sizeOf0
  v0 := Tryz.zeroValue0
  t3 := Tryz.underlying3
  a3 := Tryz.isAgg3
  z3 := Tryz.sizeOf3
  v3 := Tryz.zeroValue3
  t9 := Tryz.underlying9
  a9 := Tryz.isAgg9
  z9 := Tryz.sizeOf9
  v9 := Tryz.zeroValue9
  t37 := Tryz.underlying98
  a37 := Tryz.isAgg98
  z37 := Tryz.sizeOf98
  v37 := Tryz.zeroValue98
  t70 := Tryz.underlying97
  a70 := Tryz.isAgg97
  z70 := Tryz.sizeOf97
  v70 := Tryz.zeroValue97
  t72 := Tryz.underlying100
  a72 := Tryz.isAgg100
  z72 := Tryz.sizeOf100
  v72 := Tryz.zeroValue100
  t127 := Tryz.underlying147
  a127 := Tryz.isAgg147
  z127 := Tryz.sizeOf147
  v127 := Tryz.zeroValue147 }
theorem Tryz.Builder_Extra_169 : Builder.Extra Tryz.prog Tryz.lays169_ren := {
  sizeBuilder := by kernel_rfl
  liesBuilder := by kernel_rfl
  t5 := Tryz.underlying5
  a5 := Tryz.isAgg5
  z5 := Tryz.sizeOf5
  v5 := Tryz.zeroValue5
  infoByte := by kernel_rfl
  cellsByte := by kernel_rfl
  sizeByte := by kernel_rfl
  neB5 := by decide }
open Go.RowKit in
theorem Tryz.Builder_String_any_k (B b : Nat) (l : List UInt8) (w : World) (h : Lib.IsBuilderF 100 5 B b (Lib.byteCells l) w) (hBw : B ≤ w.heap.size) :
    Calls Tryz.prog 63 #[.pointer (some ⟨b, 0, none⟩)] w fun e w' => e = .returned (.string ⟨l.toArray⟩) ∧ (Lib.IsBuilderF 100 5 B b (Lib.byteCells l) w' ∧ Below B w w' ∧ Lib.OthersKept 5 (some b) w w') := Any.Builder_String_any_k Tryz.lays169 Tryz.Builder_Extra_169 B b l w h hBw
def Tryz.lays171_ren : Go.Shelf.Ren := ⟨fun | 171 => 61 | 243 => 119 | 246 => 160 | 283 => 188 | 284 => 189 | 285 => 190 | 286 => 191 | 129 => 159 | 317 => 201 | 318 => 202 | 319 => 203 | 320 => 204 | 337 => 206 | 338 => 207 | n => n, fun | 3 => 3 | 9 => 9 | 2 => 2 | 4 => 4 | 171 => 202 | 0 => 0 | 53 => 183 | 37 => 98 | 5 => 5 | 173 => 204 | 212 => 214 | 51 => 181 | 20 => 20 | 213 => 215 | 46 => 146 | 232 => 221 | 233 => 222 | n => n, fun | 17 => 1 | 18 => 4 | 19 => 5 | n => n⟩
theorem Tryz.lays171 : Go.Proofs.Lays.n171 Tryz.prog Tryz.lays171_ren := {
  mixed := by kernel_rfl
  f129 := Tryz.func159.trans (congrArg some (by kernel_rfl))
  f171 := Tryz.func61.trans (congrArg some (by kernel_rfl))
  f243 := Tryz.func119.trans (congrArg some (by kernel_rfl))
  f246 := Tryz.func160.trans (congrArg some (by kernel_rfl))
  f283 := Tryz.func188.trans (congrArg some (by kernel_rfl))
  f284 := Tryz.func189.trans (congrArg some (by kernel_rfl))
  f285 := Tryz.func190.trans (congrArg some (by kernel_rfl))
  f286 := Tryz.func191.trans (congrArg some (by kernel_rfl))
  f317 := Tryz.func201.trans (congrArg some (by kernel_rfl))
  f318 := Tryz.func202.trans (congrArg some (by kernel_rfl))
  f319 := Tryz.func203.trans (congrArg some (by kernel_rfl))
  f320 := Tryz.func204.trans (congrArg some (by kernel_rfl))
  f337 := Tryz.func206.trans (congrArg some (by kernel_rfl))
  f338 := Tryz.func207.trans (congrArg some (by kernel_rfl))
  t0 := Tryz.underlying0
  a0 := Tryz.isAgg0
  z0 := Tryz.sizeOf0
  v0 := Tryz.zeroValue0
  t2 := Tryz.underlying2
  a2 := Tryz.isAgg2
  z2 := Tryz.sizeOf2
  v2 := Tryz.zeroValue2
  t3 := Tryz.underlying3
  a3 := Tryz.isAgg3
  z3 := Tryz.sizeOf3
  v3 := Tryz.zeroValue3
  t4 := Tryz.underlying4
  a4 := Tryz.isAgg4
  z4 := Tryz.sizeOf4
  v4 := Tryz.zeroValue4
  t5 := Tryz.underlying5
  a5 := Tryz.isAgg5
  z5 := Tryz.sizeOf5
  v5 := Tryz.zeroValue5
  t9 := Tryz.underlying9
  a9 := Tryz.isAgg9
  z9 := Tryz.sizeOf9
  v9 := Tryz.zeroValue9
  t20 := Tryz.underlying20
  a20 := Tryz.isAgg20
  z20 := Tryz.sizeOf20
  v20 := Tryz.zeroValue20
  t37 := Tryz.underlying98
  a37 := Tryz.isAgg98
  z37 := Tryz.sizeOf98
  v37 := Tryz.zeroValue98
  t46 := Tryz.underlying146
  a46 := Tryz.isAgg146
  z46 := Tryz.sizeOf146
  v46 := Tryz.zeroValue146
  t51 := Tryz.underlying181
  a51 := Tryz.isAgg181
  z51 := Tryz.sizeOf181
  v51 := Tryz.zeroValue181
  t53 := Tryz.underlying183
  a53 := Tryz.isAgg183
  z53 := Tryz.sizeOf183
  v53 := Tryz.zeroValue183
  t171 := Tryz.underlying202
  a171 := Tryz.isAgg202
  z171 := Tryz.sizeOf202
  v171 := Tryz.zeroValue202
  t173 := Tryz.underlying204
  a173 := Tryz.isAgg204
  z173 := Tryz.sizeOf204
  v173 := Tryz.zeroValue204
  t212 := Tryz.underlying214
  a212 := Tryz.isAgg214
  z212 := Tryz.sizeOf214
  v212 := Tryz.zeroValue214
  t213 := Tryz.underlying215
  a213 := Tryz.isAgg215
  z213 := Tryz.sizeOf215
  t232 := Tryz.underlying221
  a232 := Tryz.isAgg221
  z232 := Tryz.sizeOf221
  v232 := Tryz.zeroValue221
  t233 := Tryz.underlying222
  a233 := Tryz.isAgg222
  z233 := Tryz.sizeOf222
  v233 := Tryz.zeroValue222
  g17 := by kernel_rfl
  g18 := by kernel_rfl
  g19 := by kernel_rfl }
open Go.RowKit Go.Sort Go.Lib in
theorem Tryz.strconv_Itoa_small (i : Nat) (hi : i < 100) (w : World) :
    Calls Tryz.prog 61 #[.int .i64 i] w fun e w' => e = .returned (.string ⟨(Lib.decDigits i).toArray⟩) ∧ w' = w := Any.strconv_Itoa_small Tryz.lays171 i hi w
def Tryz.lays189_ren : Go.Shelf.Ren := ⟨fun | 189 => 58 | 125 => 116 | 257 => 115 | 128 => 158 | 129 => 159 | 294 => 150 | 295 => 151 | 296 => 152 | 297 => 153 | 298 => 154 | 299 => 155 | 216 => 144 | 300 => 156 | 301 => 157 | 328 => 183 | 329 => 184 | 330 => 185 | 331 => 186 | 332 => 187 | 215 => 180 | 343 => 200 | n => n, fun | 28 => 23 | 3 => 3 | 46 => 146 | 0 => 0 | 51 => 181 | 53 => 183 | 4 => 4 | 183 => 175 | 182 => 174 | 131 => 137 | 5 => 5 | 9 => 9 | 218 => 196 | 222 => 200 | 228 => 210 | 229 => 211 | n => n, fun | n => n⟩
theorem Tryz.lays189 : Go.Proofs.Lays.n189 Tryz.prog Tryz.lays189_ren := {
  mixed := by kernel_rfl
  f125 := Tryz.func116.trans (congrArg some (by kernel_rfl))
  f128 := Tryz.func158.trans (congrArg some (by kernel_rfl))
  f129 := Tryz.func159.trans (congrArg some (by kernel_rfl))
  f189 := Tryz.func58.trans (congrArg some (by kernel_rfl))
  f215 := Tryz.func180.trans (congrArg some (by kernel_rfl))
  f216 := Tryz.func144.trans (congrArg some (by kernel_rfl))
  f257 := Tryz.func115.trans (congrArg some (by kernel_rfl))
  f294 := Tryz.func150.trans (congrArg some (by kernel_rfl))
  f295 := Tryz.func151.trans (congrArg some (by kernel_rfl))
  f296 := Tryz.func152.trans (congrArg some (by kernel_rfl))
  f297 := Tryz.func153.trans (congrArg some (by kernel_rfl))
  f298 := Tryz.func154.trans (congrArg some (by kernel_rfl))
  f299 := Tryz.func155.trans (congrArg some (by kernel_rfl))
  f300 := Tryz.func156.trans (congrArg some (by kernel_rfl))
  f301 := Tryz.func157.trans (congrArg some (by kernel_rfl))
  f328 := Tryz.func183.trans (congrArg some (by kernel_rfl))
  f329 := Tryz.func184.trans (congrArg some (by kernel_rfl))
  f330 := Tryz.func185.trans (congrArg some (by kernel_rfl))
  f331 := Tryz.func186.trans (congrArg some (by kernel_rfl))
  f332 := Tryz.func187.trans (congrArg some (by kernel_rfl))
  f343 := Tryz.func200.trans (congrArg some (by kernel_rfl))
  t0 := Tryz.underlying0
  a0 := Tryz.isAgg0
  z0 := Tryz.sizeOf0
  v0 := Tryz.zeroValue0
  t3 := Tryz.underlying3
  a3 := Tryz.isAgg3
  z3 := Tryz.sizeOf3
  v3 := Tryz.zeroValue3
  t4 := Tryz.underlying4
  a4 := Tryz.isAgg4
  z4 := Tryz.sizeOf4
  v4 := Tryz.zeroValue4
  t5 := Tryz.underlying5
  a5 := Tryz.isAgg5
  z5 := Tryz.sizeOf5
  v5 := Tryz.zeroValue5
  t9 := Tryz.underlying9
  a9 := Tryz.isAgg9
  z9 := Tryz.sizeOf9
  v9 := Tryz.zeroValue9
  t28 := Tryz.underlying23
  a28 := Tryz.isAgg23
  z28 := Tryz.sizeOf23
  v28 := Tryz.zeroValue23
  t46 := Tryz.underlying146
  a46 := Tryz.isAgg146
  z46 := Tryz.sizeOf146
  v46 := Tryz.zeroValue146
  t51 := Tryz.underlying181
  a51 := Tryz.isAgg181
  z51 := Tryz.sizeOf181
  v51 := Tryz.zeroValue181
  t53 := Tryz.underlying183
  a53 := Tryz.isAgg183
  z53 := Tryz.sizeOf183
  v53 := Tryz.zeroValue183
  t131 := Tryz.underlying137
  a131 := Tryz.isAgg137
  z131 := Tryz.sizeOf137
  v131 := Tryz.zeroValue137
  t182 := Tryz.underlying174
  a182 := Tryz.isAgg174
  z182 := Tryz.sizeOf174
  v182 := Tryz.zeroValue174
  t183 := Tryz.underlying175
  a183 := Tryz.isAgg175
  z183 := Tryz.sizeOf175
  v183 := Tryz.zeroValue175
  t218 := Tryz.underlying196
  a218 := Tryz.isAgg196
  z218 := Tryz.sizeOf196
  v218 := Tryz.zeroValue196
  t222 := Tryz.underlying200
  a222 := Tryz.isAgg200
  z222 := Tryz.sizeOf200
  v222 := Tryz.zeroValue200
  t228 := Tryz.underlying210
  a228 := Tryz.isAgg210
  z228 := Tryz.sizeOf210
  v228 := Tryz.zeroValue210
  t229 := Tryz.underlying211
  a229 := Tryz.isAgg211
  z229 := Tryz.sizeOf211
  v229 := Tryz.zeroValue211 }
open Go.Sort Go.RowKit in
theorem Tryz.slices_Sort_int (blk off cap : Nat) (zs : List Int) (w : World) (hH : Holds (Value.int .i64) w blk off zs.toArray) (hblk : blk < w.heap.size) (hsz : zs.length < 4611686018427387904) :
    Calls Tryz.prog 58 #[.slice (some ⟨blk, off, none⟩) zs.length cap] w fun e w' =>
      e = .returned (.tuple #[]) ∧ ∃ n os, w' = grow (putRow (Value.int .i64) (Sort.ahead w n) blk off (zs.mergeSort fun x y => decide (x ≤ y)).toArray) os := Any.slices_Sort_int Tryz.lays189 blk off cap zs w hH hblk hsz
def Tryz.laysNm225_ren : Go.Shelf.Ren := ⟨fun | 25 => 105 | 31 => 144 | 32 => 145 | 37 => 180 | n => n, fun | 22 => 23 | 3 => 3 | 4 => 4 | 40 => 146 | 0 => 0 | n => n, fun | n => n⟩
theorem Tryz.laysNm225 : Go.Proofs.Lays2.n25 Tryz.prog Tryz.laysNm225_ren := {
  mixed := by kernel_rfl
  f25 := Tryz.func105.trans (congrArg some (by kernel_rfl))
  f31 := Tryz.func144.trans (congrArg some (by kernel_rfl))
  f32 := Tryz.func145.trans (congrArg some (by kernel_rfl))
  f37 := Tryz.func180.trans (congrArg some (by kernel_rfl))
  t0 := Tryz.underlying0
  a0 := Tryz.isAgg0
  z0 := Tryz.sizeOf0
  v0 := Tryz.zeroValue0
  t3 := Tryz.underlying3
  a3 := Tryz.isAgg3
  z3 := Tryz.sizeOf3
  v3 := Tryz.zeroValue3
  t4 := Tryz.underlying4
  a4 := Tryz.isAgg4
  z4 := Tryz.sizeOf4
  v4 := Tryz.zeroValue4
  t22 := Tryz.underlying23
  a22 := Tryz.isAgg23
  z22 := Tryz.sizeOf23
  v22 := Tryz.zeroValue23
  t40 := Tryz.underlying146
  a40 := Tryz.isAgg146
  z40 := Tryz.sizeOf146
  v40 := Tryz.zeroValue146 }
open Go.RowKit Go.Lib in
theorem Tryz.slices_BinarySearch_int (b off n c : Nat) (zs : List Int) (x : Int) (w : World) (hz : n ≤ zs.length) (hbig : n < 4611686018427387904) (hc : ∀ j, j < zs.length → w.cell? ⟨b, off + j, none⟩ = some (.int .i64 (zs.getD j 0))) (hs : (zs.take n).Pairwise (· ≤ ·)) :
    Calls Tryz.prog 105 #[.slice (some ⟨b, off, none⟩) n c, .int .i64 x] w fun e w' => e = .returned (.tuple #[.int .i64 ((zs.take n).countP (· < x) : Nat), .bool ((zs.take n).contains x)]) ∧ ∃ q, w' = w.drewN q := Any.slices_BinarySearch_int Tryz.laysNm225 b off n c zs x w hz hbig hc hs
open Go.RowKit Go.Sort in
theorem Tryz.slices_Sort_int_none (p : Option Addr) (cap : Nat) (w : World) :
    Calls Tryz.prog 58 #[.slice p 0 cap] w fun e w' => e = .returned (.tuple #[]) ∧ w' = w := Any.slices_Sort_int_none Tryz.lays189 p cap w
open Go.RowKit Go.Lib in
theorem Tryz.slices_BinarySearch_int_empty (a : Option Addr) (c : Nat) (x : Int) (w : World) :
    Calls Tryz.prog 105 #[.slice a 0 c, .int .i64 x] w fun e w' => e = .returned (.tuple #[.int .i64 0, .bool false]) ∧ w' = w := Any.slices_BinarySearch_int_empty Tryz.laysNm225 a c x w
end Go.Proofs.YtfajkmmmmmfhiaaGreatDoor
