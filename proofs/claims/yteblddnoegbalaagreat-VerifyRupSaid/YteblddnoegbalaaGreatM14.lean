/- My texts CpV, Mem, LeastP, Red1, Red2, Cm3, Cm2, CpS, Rounds1, RoundsU, Rounds2, SrcSt, Entry, Try2, merged. -/
import Derived.Test.YteblddnoegbalaaGreatM07
import Derived.Test.YteblddnoegbalaaGreatM05
import Derived.Test.YteblddnoegbalaaGreatM04
import Derived.Test.YteblddnoegbalaaGreatM00
import Derived.Test.YteblddnoegbalaaGreatProg
import Derived.WalkKit
import Derived.Lib.Hide
import Derived.Deep.QuietTactic
import Derived.BigQuiet
import Derived.Test.YteblddnoegbalaaGreatM03
import Derived.Lib.Bytealg
import Derived.MapKept
import Derived.Maps.OwnSet
import Derived.Maps.OwnOps
import Derived.WalkSpells
import Derived.Lib.SliceRun
import Derived.Test.YteblddnoegbalaaGreatM02
import Derived.Test.YteblddnoegbalaaGreatM01
import Derived.Deep.AppendLies
import Derived.Deep.DeepCutAuto
import Derived.Test.YteblddnoegbalaaGreatM13
import Derived.Test.YteblddnoegbalaaGreatM12
import Derived.Test.YteblddnoegbalaaGreatM11
import Derived.RangeFuncNested
import Derived.RangeFuncBound
import Derived.RangeFuncCalls
import Derived.RangeFuncLeaves
import Derived.OwnWalkIn
import Derived.TacticsInMore
import Derived.LoopNIn
import Derived.LoopIn
import Derived.Stop.RegionWithIn
import Derived.Shelf.Abstract
import Derived.Test.YteblddnoegbalaaGreatM06
import Derived.Sort.QuietThIn
import Derived.Laws.EntriesVeiled
import Derived.Test.YteblddnoegbalaaGreatM10
import Derived.Test.YteblddnoegbalaaGreatM09
import Derived.Test.YteblddnoegbalaaGreatM08
import Derived.Maps.RangeWalk
import Derived.Lib.SlicesCompact
import Derived.Shelf.Sort.Plain
import Derived.Shelf.Slices.CompactI
import Derived.Shelf.Slices.In.SortNone
import Derived.Shelf.Strconv.Itoa3
import Derived.Shelf.Strings.BuilderK
import Derived.Shelf.Slices.SearchI
import Derived.Shelf.Slices.Empties
import Derived.Sort.OwnSortedInts
import Derived.RangeFuncBox
import Derived.Maps.OwnIn
import Derived.Lib.RowBridge
import Derived.Deep.OwnRows
import Derived.Deep.AppendSrc
import Derived.Deep.RegionWith
import Derived.Deep.LoopGhost

namespace Go.Proofs.YteblddnoegbalaaGreat
theorem ordered_len {l : List Int} {n : Int} (h : orderedB l n = true) (hn : 0 ≤ n) : (l.length : Int) ≤ 2 * n := by
  have hp : (l.map litKey).Pairwise (· < ·) := by
    rw [List.pairwise_iff_getElem]
    intro i j hi hj hij
    simp only [List.length_map] at hi hj
    have := ordered_lt h j hj i hij
    simpa [ix, List.getD_eq_getElem?_getD, List.getElem?_eq_getElem hi, List.getElem?_eq_getElem hj] using this
  have := lt_length (l.map litKey) 2 (2 * n + 2) hp (fun x hx => by
    obtain ⟨y, hy, rfl⟩ := List.mem_map.1 hx
    have := ordered_lit h hy
    unfold litKey
    split <;> omega) (by omega)
  simp at this; omega
theorem inc_lt {l : List Int} {n : Int} (h : increasingB l n = true) {i j : Nat} (hj : j < l.length) (hij : i < j) : ix l i < ix l j := by
  have h1 := ordered_lt (increasing_ordered h) j hj i hij
  have h2 := inc_pos h hj
  have h3 := inc_pos h (show i < l.length by omega)
  unfold litKey at h1
  rw [if_pos (by omega), if_pos (by omega)] at h1
  omega
theorem compV_valid {p : GP} (hv : validE p = 0) : CompV p := by
  have hP := validP hv
  have hn := hP.n
  refine ⟨hP.n, hP.rules, fun i hi => ?_⟩
  have hR := ruleE_at hv hi
  have hh := hP.head i hi
  have hb := hP.body i hi
  have ho : orderedB (ixR p.rules i).head p.n = true := by unfold increasingB at hh; rw [Bool.and_eq_true] at hh; exact hh.1
  refine ⟨hP.n, fun x hx => ?_, fun x hx => ordered_lit hb hx, ⟨?_, ?_⟩, fun hs => ?_⟩
  · obtain ⟨j, hj, rfl⟩ := mem_ix.1 hx
    have := inc_pos hh hj
    omega
  · have := ordered_len hb hn.1; omega
  · have := ordered_len ho hn.1; omega
  · obtain ⟨h1, h2, h3⟩ := weights_sum (hP.sum i hi hs)
    refine ⟨by omega, h2, (h3 _ (Nat.le_refl _)).2, hP.bound i hi, ?_⟩
    unfold ruleE at hR
    split at hR
    · omega
    split at hR
    · omega
    split at hR
    · omega
    split at hR
    · omega
    · rename_i h
      exact Classical.byContradiction fun hc => h (.inr ⟨hs, .inr (.inr (by omega))⟩)
theorem sumTo_mono {K : List Int} (h : ∀ j, j < K.length → 1 ≤ ix K j) : ∀ (n i : Nat), i ≤ n → n ≤ K.length → sumTo K i ≤ sumTo K n
  | 0, i, hi, _ => by obtain rfl : i = 0 := by omega
                      exact Int.le_refl _
  | n + 1, i, hi, hn => by
    by_cases e : i = n + 1
    · subst e; exact Int.le_refl _
    · have := sumTo_mono h n i (by omega) (by omega)
      have := h n (by omega)
      simp only [sumTo] at *
      omega
theorem CompV.counts {p : GP} (h : CompV p) : ∀ k, k ≤ p.rules.length → compNs p k ≤ 8002 * k
  | 0, _ => by simp [compNs]
  | k + 1, hk => by
    have ih := h.counts k (by omega)
    have := (h.rule k (by omega)).len
    unfold compNs compN
    split <;> split <;> omega
theorem CompV.lenTo {p : GP} (h : CompV p) {k : Nat} (hk : k ≤ p.rules.length) : (compTo p k).length ≤ 400000000 := by
  have h1 := h.counts k hk
  have h2 := h.rules
  rw [compTo_len]
  omega
def supIn (p : GP) (k j : Nat) (a : Int) : List Int := supAt' p a k ++ (if a ∈ (ixR p.rules k).head.take j then [p.n + 1 + k] else [])
theorem supIn_zero (p : GP) (k : Nat) : supIn p k 0 = fun a => supAt' p a k := by funext a; simp [supIn]
theorem supIn_all (p : GP) (k : Nat) : supIn p k (ixR p.rules k).head.length = fun a => supAt' p a (k + 1) := by funext a; simp [supIn, supAt']
theorem inc_nodup {l : List Int} {n : Int} (h : increasingB l n = true) {j : Nat} (hj : j < l.length) : ix l j ∉ l.take j := by
  intro hm
  obtain ⟨i, hi, e⟩ := mem_ix.1 hm
  rw [List.length_take] at hi
  have h1 := inc_lt h hj (show i < j by omega)
  have e2 : ix (l.take j) i = l[i]'(by omega) := by
    rw [ix_get (by rw [List.length_take]; omega)]
    exact List.getElem_take
  rw [e2, ← ix_get] at e
  omega
theorem supIn_next {p : GP} (hv : validE p = 0) {k j : Nat} (hk : k < p.rules.length) (hj : j < (ixR p.rules k).head.length) :
    supIn p k (j + 1) = setL' (supIn p k j) (ix (ixR p.rules k).head j) (supIn p k j (ix (ixR p.rules k).head j) ++ [p.n + 1 + k]) := by
  have hn := inc_nodup ((validP hv).head k hk) hj
  have ht : (ixR p.rules k).head.take (j + 1) = (ixR p.rules k).head.take j ++ [ix (ixR p.rules k).head j] := by
    rw [List.take_add_one, List.getElem?_eq_getElem hj, ix_get hj]; rfl
  funext a
  unfold setL' supIn
  rw [ht]
  by_cases e : a = ix (ixR p.rules k).head j
  · subst e
    rw [if_pos rfl, if_pos (by simp), if_neg hn, List.append_nil]
  · rw [if_neg e]
    have : (a ∈ (ixR p.rules k).head.take j ++ [ix (ixR p.rules k).head j]) ↔ a ∈ (ixR p.rules k).head.take j := by simp [e]
    simp only [this]
end Go.Proofs.YteblddnoegbalaaGreat
namespace Go.Proofs.YteblddnoegbalaaGreat
open Go.RowKit
def MemSt (W4 : World) (bm : Nat) (U : List Int) (k : Nat) (wx : World) : Prop :=
  ∃ G, MapIs (Value.int .i64) wx bm (mapI G) ∧ (∀ y, 0 ≤ G y ∧ G y ≤ k ∧ (0 < G y ↔ y ∈ U.take k)) ∧ Below W4.heap.size W4 wx
theorem take_ixM (U : List Int) (k : Nat) (hk : k < U.length) : U.take (k + 1) = U.take k ++ [ix U k] := by
  rw [List.take_succ_eq_append_getElem hk]
  simp [ix, List.getD_eq_getElem?_getD, List.getElem?_eq_getElem hk]
theorem MemSt.start (W4 : World) (U : List Int) : MemSt W4 W4.heap.size U 0 (W4.alloc (.map #[] 0)) := by
  refine ⟨fun _ => 0, ?_, fun y => by simp, bal (Below.refl _ _) _⟩
  have : mapI (fun _ => 0) = fun _ => none := by funext x; simp [mapI]
  rw [this]; exact MapIs.made W4
theorem MemSt.put {W4 wx w7 : World} {U : List Int} {k : Nat} {G : Int → Int} (hG : ∀ y, 0 ≤ G y ∧ G y ≤ k ∧ (0 < G y ↔ y ∈ U.take k)) (hb : Below W4.heap.size W4 wx) (hk : k < U.length)
    (hm : MapIs (Value.int .i64) w7 W4.heap.size (upd (mapI G) (ix U k) (some (.int .i64 (G (ix U k) + 1))))) (hg : wx.grownBy w7 (some W4.heap.size)) : MemSt W4 W4.heap.size U (k + 1) w7 := by
  have hx := hG (ix U k)
  have hsz := hb.size
  refine ⟨setI G (ix U k) (G (ix U k) + 1), by rw [mapI_set (by omega)]; exact hm, fun y => ?_, hb.trans ⟨hg.os, hg.tape, hg.output, hg.size, fun i hi => hg.block i (by omega) (fun e => by have := Option.some.inj e; omega)⟩⟩
  rw [take_ixM U k hk, List.mem_append, List.mem_singleton]
  by_cases e : y = ix U k
  · subst e
    have e2 : setI G (ix U k) (G (ix U k) + 1) (ix U k) = G (ix U k) + 1 := by simp [setI]
    rw [e2]
    exact ⟨by omega, by omega, ⟨fun _ => .inr rfl, fun _ => by omega⟩⟩
  · have e2 : setI G (ix U k) (G (ix U k) + 1) y = G y := by simp [setI, e]
    rw [e2]
    have := hG y
    exact ⟨this.1, by omega, ⟨fun h => .inl (this.2.2.1 h), fun h => this.2.2.2 (h.resolve_right e)⟩⟩
def InM (w : World) (mb : Nat) (m : List Int) : Prop :=
  ∃ b G, Blk w mb [.map (some b)] 129 ∧ MapIs (Value.int .i64) w b (mapI G) ∧ ∀ y, 0 < G y ↔ y ∈ m
theorem InM.below {w w' : World} {mb : Nat} {m : List Int} (h : InM w mb m) (hb : Below w.heap.size w w') : InM w' mb m :=
  let ⟨b, G, h1, h2, h3⟩ := h; ⟨b, G, h1.below hb, h2.below hb, h3⟩
theorem InM.lt {w : World} {mb : Nat} {m : List Int} (h : InM w mb m) : mb < w.heap.size := let ⟨_, _, h1, _⟩ := h; h1.lt
def litT (m : List Int) (l : Int) : Bool := if 0 < l then decide (l ∈ m) else !decide (-l ∈ m)
def wOf (r : GR) (k : Nat) : Int := if r.sum then ix r.w k else 1
def need0 (r : GR) : Int := if r.sum then r.bound else r.body.length
def lhsTo (C : List Int) (r : GR) : Nat → Int
  | 0 => 0
  | k + 1 => lhsTo C r k + if ix r.body k ∈ C then wOf r k else 0
def lhs (C : List Int) (r : GR) : Int := lhsTo C r r.body.length
def stepU (U : Int → List (Int × Int)) (r : GR) (i : Nat) : Nat → Int → List (Int × Int)
  | 0 => U
  | k + 1 => fun a => if a = ix r.body k then stepU U r i k a ++ [((i : Int), wOf r k)] else stepU U r i k a
def usesU (R : List GR) : Nat → Int → List (Int × Int)
  | 0 => fun _ => []
  | i + 1 => stepU (usesU R i) (ixR R i) i (ixR R i).body.length
structure DefR (n : Int) (R : List GR) : Prop where
  rng : 0 ≤ n ∧ n ≤ 4000
  len : R.length ≤ 40000
  head : ∀ i, i < R.length → (ixR R i).head.length ≤ 1 ∧ ∀ x ∈ (ixR R i).head, 1 ≤ x ∧ x ≤ n
  body : ∀ i, i < R.length → (∀ k, k < (ixR R i).body.length → 1 ≤ ix (ixR R i).body k ∧ ix (ixR R i).body k ≤ n) ∧ (ixR R i).body.length ≤ 8002
  wts : ∀ i, i < R.length → (ixR R i).sum = true → (ixR R i).w.length = (ixR R i).body.length ∧ ∀ k, k < (ixR R i).w.length → 1 ≤ ix (ixR R i).w k ∧ ix (ixR R i).w k ≤ 1048576 - sumTo (ixR R i).w k
  bound : ∀ i, i < R.length → (ixR R i).sum = true → 0 ≤ (ixR R i).bound ∧ (ixR R i).bound ≤ 1048576
section
variable {n : Int} {R : List GR}
theorem DefR.w1 (h : DefR n R) {i : Nat} (hi : i < R.length) {k : Nat} (hk : k < (ixR R i).body.length) : 1 ≤ wOf (ixR R i) k ∧ wOf (ixR R i) k ≤ 1048576 ∧ ((ixR R i).sum = true → k < (ixR R i).w.length) := by
  unfold wOf
  cases hs : (ixR R i).sum with
  | false => simp
  | true =>
    obtain ⟨h1, h2⟩ := h.wts i hi hs
    have h3 := h2 k (by omega)
    have : ∀ m, m ≤ (ixR R i).w.length → 0 ≤ sumTo (ixR R i).w m := fun m => by
      induction m with
      | zero => intro _; simp [sumTo]
      | succ m ih => intro hm; have := ih (by omega); have := h2 m (by omega); unfold sumTo; omega
    have := this k (by omega)
    simp only [if_true]
    exact ⟨h3.1, by omega, fun _ => by omega⟩
theorem DefR.lhs_le (h : DefR n R) {i : Nat} (hi : i < R.length) (C : List Int) : ∀ k, k ≤ (ixR R i).body.length → 0 ≤ lhsTo C (ixR R i) k ∧ lhsTo C (ixR R i) k ≤ (if (ixR R i).sum then sumTo (ixR R i).w k else k)
  | 0, _ => by simp [lhsTo, sumTo]
  | k + 1, hk => by
    have ih := DefR.lhs_le h hi C k (by omega)
    have hw := (h.w1 hi (show k < _ by omega)).1
    unfold lhsTo
    have hle : wOf (ixR R i) k = if (ixR R i).sum then ix (ixR R i).w k else 1 := rfl
    cases hs : (ixR R i).sum with
    | false =>
      rw [hs] at ih hle
      simp only [if_false, Bool.false_eq_true] at ih hle ⊢
      split <;> push_cast <;> omega
    | true =>
      rw [hs] at ih hle
      simp only [if_true] at ih hle ⊢
      unfold sumTo
      split <;> omega
theorem DefR.sum_le (h : DefR n R) {i : Nat} (hi : i < R.length) (hs : (ixR R i).sum = true) : ∀ k, k ≤ (ixR R i).w.length → sumTo (ixR R i).w k ≤ 1048576
  | 0, _ => by simp [sumTo]
  | k + 1, hk => by have := (h.wts i hi hs).2 k (by omega); unfold sumTo; omega
theorem DefR.need (h : DefR n R) {i : Nat} (hi : i < R.length) (C : List Int) {k : Nat} (hk : k ≤ (ixR R i).body.length) : -1048576 ≤ need0 (ixR R i) - lhsTo C (ixR R i) k ∧ need0 (ixR R i) - lhsTo C (ixR R i) k ≤ 1048576 := by
  have h1 := h.lhs_le hi C k hk
  have hb := (h.body i hi).2
  unfold need0
  cases hs : (ixR R i).sum with
  | false =>
    rw [hs] at h1
    simp only [if_false, Bool.false_eq_true] at h1 ⊢
    omega
  | true =>
    rw [hs] at h1
    have h2 := h.sum_le hi hs k (by have := (h.wts i hi hs).1; omega)
    have h3 := h.bound i hi hs
    simp only [if_true] at h1 ⊢
    omega
theorem lhsTo_mono (h : DefR n R) {i : Nat} (hi : i < R.length) {C C' : List Int} (hc : ∀ x ∈ C, x ∈ C') : ∀ k, k ≤ (ixR R i).body.length → lhsTo C (ixR R i) k ≤ lhsTo C' (ixR R i) k
  | 0, _ => by simp [lhsTo]
  | k + 1, hk => by
    have ih := lhsTo_mono h hi hc k (by omega)
    have hw := (h.w1 hi (show k < _ by omega)).1
    unfold lhsTo
    by_cases h1 : ix (ixR R i).body k ∈ C
    · rw [if_pos h1, if_pos (hc _ h1)]; omega
    · rw [if_neg h1]; split <;> omega
theorem lhsTo_congr {C C' : List Int} (hc : ∀ x, x ∈ C ↔ x ∈ C') (r : GR) : ∀ k, lhsTo C r k = lhsTo C' r k
  | 0 => rfl
  | k + 1 => by unfold lhsTo; rw [lhsTo_congr hc r k]; simp only [hc]
def ClosedD (R : List GR) (T : List Int) : Prop := ∀ i, i < R.length → need0 (ixR R i) ≤ lhs T (ixR R i) → ∀ x ∈ (ixR R i).head, x ∈ T
def Der (R : List GR) (x : Int) : Prop := ∀ T, ClosedD R T → x ∈ T
structure IsLeast (R : List GR) (M : List Int) : Prop where
  closed : ClosedD R M
  least : ∀ x ∈ M, Der R x
theorem der_of (h : DefR n R) {C : List Int} (hC : ∀ x ∈ C, Der R x) {i : Nat} (hi : i < R.length) (hn : need0 (ixR R i) ≤ lhs C (ixR R i)) {x : Int} (hx : x ∈ (ixR R i).head) : Der R x := fun T hT =>
  hT i hi (Int.le_trans hn (lhsTo_mono h hi (fun y hy => hC y hy T hT) _ (Nat.le_refl _))) x hx
structure Lv (n : Int) (R : List GR) (C l od nd : List Int) : Prop where
  nodup : (C ++ l).Nodup
  range : ∀ x ∈ C ++ l, 1 ≤ x ∧ x ≤ n
  olen : (od.length : Int) = n
  nlen : nd.length = R.length
  out : ∀ x : Int, 1 ≤ x → x ≤ n → (0 < ix od (x - 1).toNat ↔ x ∈ C ++ l) ∧ 0 ≤ ix od (x - 1).toNat ∧ ix od (x - 1).toNat ≤ 4000000
  der : ∀ x ∈ C ++ l, Der R x
def Asked (R : List GR) (A nd : List Int) (Todo : Nat → Prop) : Prop := ∀ i, i < R.length → ix nd i ≤ 0 → (∀ x ∈ (ixR R i).head, x ∈ A) ∨ Todo i
def Paid (R : List GR) (C nd : List Int) : Prop := ∀ i, i < R.length → ix nd i = need0 (ixR R i) - lhs C (ixR R i)
theorem ix_set (l : List Int) (i j : Nat) (v : Int) (hi : i < l.length) : ix (l.set i v) j = if j = i then v else ix l j := by
  unfold ix
  simp only [List.getD_eq_getElem?_getD]
  by_cases h : j = i
  · subst h; rw [if_pos rfl, List.getElem?_set_self hi]; rfl
  · rw [if_neg h, List.getElem?_set_ne (by omega)]
theorem Lv.take {C l od nd : List Int} (hd : DefR n R) (h : Lv n R C l od nd) (hp : Paid R C nd) {i : Nat} (hi : i < R.length) (h0 : ix nd i ≤ 0) {x : Int} (hx : (ixR R i).head = [x]) (ho : ix od (x - 1).toNat = 0) {round : Int} (hr : 1 ≤ round ∧ round ≤ 4000000) :
    Lv n R C (l ++ [x]) (od.set (x - 1).toNat round) nd := by
  have hxr := (hd.head i hi).2 x (by rw [hx]; simp)
  have hxn : x ∉ C ++ l := fun hm => by have := (h.out x hxr.1 hxr.2).1.2 hm; omega
  have hol := h.olen
  have hlt : (x - 1).toNat < od.length := by omega
  refine ⟨by rw [← List.append_assoc]; exact List.nodup_append.2 ⟨h.nodup, by simp, fun a ha b hb => by simp only [List.mem_singleton] at hb; subst hb; rintro rfl; exact hxn ha⟩, fun y hy => ?_, by simpa using hol, h.nlen, fun y h1 h2 => ?_, fun y hy => ?_⟩
  · rw [← List.append_assoc] at hy
    rcases List.mem_append.1 hy with hy | hy
    · exact h.range y hy
    · simp only [List.mem_singleton] at hy; subst hy; exact hxr
  · rw [ix_set _ _ _ _ hlt, ← List.append_assoc]
    by_cases e : y = x
    · subst e; rw [if_pos rfl]; simp; omega
    · rw [if_neg (by omega)]
      have h3 := h.out y h1 h2
      refine ⟨h3.1.trans ?_, h3.2⟩
      simp [e]
  · rw [← List.append_assoc] at hy
    rcases List.mem_append.1 hy with hy | hy
    · exact h.der y hy
    · simp only [List.mem_singleton] at hy; subst hy
      exact der_of hd (fun z hz => h.der z (List.mem_append_left _ hz)) hi (by have := hp i hi; omega) (by rw [hx]; simp)
def Todo (R : List GR) (L : List Int) (j : Nat) (i : Nat) : Prop := ∃ j', j ≤ j' ∧ j' < L.length ∧ ∃ u ∈ usesU R R.length (ix L j'), u.1 = (i : Int)
def Todo2 (R : List GR) (L : List Int) (j q : Nat) (i : Nat) : Prop := (∃ q', q ≤ q' ∧ q' < (usesU R R.length (ix L j)).length ∧ ((usesU R R.length (ix L j)).getD q' (0, 0)).1 = (i : Int)) ∨ Todo R L (j + 1) i
theorem Todo.open {L : List Int} {j i : Nat} (h : Todo R L j i) : Todo2 R L j 0 i := by
  obtain ⟨j', h1, h2, u, hu, e⟩ := h
  by_cases hj : j' = j
  · subst hj
    obtain ⟨q, hq, e2⟩ := List.mem_iff_getElem.1 hu
    exact .inl ⟨q, by omega, hq, by rw [List.getD_eq_getElem?_getD, List.getElem?_eq_getElem hq]; simp [e2, e]⟩
  · exact .inr ⟨j', by omega, h2, u, hu, e⟩
theorem Todo.none {L : List Int} {i : Nat} (h : Todo R L L.length i) : False := by
  obtain ⟨j, h1, h2, _⟩ := h
  omega
def posL (od : List Int) : Nat → List Int
  | 0 => []
  | k + 1 => if 0 < ix od k then posL od k ++ [(k : Int) + 1] else posL od k
theorem posL_mem (od : List Int) (x : Int) : ∀ k, x ∈ posL od k ↔ 1 ≤ x ∧ x ≤ k ∧ 0 < ix od (x - 1).toNat
  | 0 => by simp [posL]; omega
  | k + 1 => by
    have ih := posL_mem od x k
    unfold posL
    split
    · rename_i h
      simp only [List.mem_append, List.mem_singleton, ih]
      constructor
      · rintro (h1 | h1)
        · exact ⟨h1.1, by omega, h1.2.2⟩
        · refine ⟨by omega, by omega, ?_⟩
          have : (x - 1).toNat = k := by omega
          rw [this]; exact h
      · rintro ⟨h1, h2, h3⟩
        by_cases e : x = (k : Int) + 1
        · exact .inr e
        · exact .inl ⟨h1, by omega, h3⟩
    · rename_i h
      rw [ih]
      constructor
      · rintro ⟨h1, h2, h3⟩; exact ⟨h1, by omega, h3⟩
      · rintro ⟨h1, h2, h3⟩
        refine ⟨h1, ?_, h3⟩
        by_cases e : x = (k : Int) + 1
        · have : (x - 1).toNat = k := by omega
          rw [this] at h3; exact absurd h3 h
        · omega
theorem Lv.done {C od nd : List Int} (h : Lv n R C [] od nd) (hp : Paid R C nd) (ha : Asked R C nd (fun _ => False)) : IsLeast R (posL od n.toNat) := by
  have hC : ∀ x, x ∈ posL od n.toNat ↔ x ∈ C := fun x => by
    rw [posL_mem]
    constructor
    · rintro ⟨h1, h2, h3⟩
      have := ((h.out x h1 (by omega)).1).1 h3
      simpa using this
    · intro hx
      have hr := h.range x (by simpa using hx)
      exact ⟨hr.1, by omega, ((h.out x hr.1 hr.2).1).2 (by simpa using hx)⟩
  refine ⟨fun i hi hn x hx => ?_, fun x hx => h.der x (by simpa using (hC x).1 hx)⟩
  have e : lhs (posL od n.toNat) (ixR R i) = lhs C (ixR R i) := lhsTo_congr hC _ _
  rcases ha i hi (by have := hp i hi; omega) with h1 | h1
  · exact (hC x).2 (h1 x hx)
  · exact h1.elim
end
theorem made_list (z : Value) (n : Nat) : madeCells #[z] n = (List.replicate n z).toArray := by
  apply Array.ext
  · simp [size_madeCells]
  · intro i h1 h2
    simp [madeCells, Nat.mod_one]
def wsum (m : List Int) (r : GR) : Nat → Int
  | 0 => 0
  | k + 1 => wsum m r k + if litT m (ix r.body k) then ix r.w k else 0
def bodyT (r : GR) (m : List Int) : Bool := if r.sum then decide (r.bound ≤ wsum m r r.body.length) else allR r.body.length (fun j => litT m (ix r.body j))
structure BodyOk (r : GR) : Prop where
  len : r.body.length ≤ 8000
  lit : ∀ j, j < r.body.length → -9223372036854775808 < ix r.body j
  wlen : r.sum = true → r.w.length = r.body.length
  w : r.sum = true → ∀ j, j < r.w.length → 0 ≤ ix r.w j ∧ ix r.w j ≤ 1048576
def satT (r : GR) (m : List Int) : Bool := r.choice || !bodyT r m || anyR r.head.length (fun j => decide (ix r.head j ∈ m))
theorem lits_le2 {l : List Int} {n : Int} (h : orderedB l n = true) (hn : 0 ≤ n) : (l.length : Int) ≤ 2 * n := by
  have hp : (l.map litKey).Pairwise (· < ·) := by
    rw [List.pairwise_iff_getElem]
    intro i j hi hj hij
    simp only [List.length_map] at hi hj
    have := ordered_lt h j hj i hij
    simpa [ix, List.getD_eq_getElem?_getD, List.getElem?_eq_getElem hi, List.getElem?_eq_getElem hj] using this
  have := lt_length (l.map litKey) 2 (2 * n + 2) hp (fun x hx => by
    obtain ⟨y, hy, rfl⟩ := List.mem_map.1 hx
    have := ordered_lit h hy
    unfold litKey
    split <;> omega) (by omega)
  simp at this; omega
structure BodyV (r : GR) (n : Int) : Prop where
  rng : 0 ≤ n ∧ n ≤ 4000
  ord : orderedB r.body n = true
  sum : r.sum = true → weightsB r.w r.body.length = true
  bound : 0 ≤ r.bound
theorem BodyV.ok {r : GR} {n : Int} (h : BodyV r n) : BodyOk r where
  len := by have := lits_le2 h.ord h.rng.1; have := h.rng; omega
  lit := fun j hj => by have := ordered_lit h.ord (ix_mem hj); have := h.rng; omega
  wlen := fun hs => by have := (weights_sum (h.sum hs)).1; omega
  w := fun hs j hj => by
    have h1 := weights_sum (h.sum hs)
    have h2 := h1.2.1 j hj
    have h3 := h1.2.2 (j + 1) (by omega)
    have h4 := h1.2.2 j (by omega)
    unfold sumTo at h3
    omega
def CntSt (W0 : World) (bm : Nat) (P : Int → Prop) (B : Int) (wx : World) : Prop :=
  ∃ G, MapIs (Value.int .i64) wx bm (mapI G) ∧ (∀ y, 0 ≤ G y ∧ G y ≤ B ∧ (0 < G y ↔ P y)) ∧ Below W0.heap.size W0 wx
theorem CntSt.start (W0 : World) : CntSt W0 W0.heap.size (fun _ => False) 0 (W0.alloc (.map #[] 0)) := by
  refine ⟨fun _ => 0, ?_, fun y => by simp, bal (Below.refl _ _) _⟩
  have : mapI (fun _ => 0) = fun _ => none := by funext x; simp [mapI]
  rw [this]; exact MapIs.made W0
theorem CntSt.on {W0 wx wy : World} {bm : Nat} {P : Int → Prop} {B : Int} (h : CntSt W0 bm P B wx) (hb : Below wx.heap.size wx wy) : CntSt W0 bm P B wy :=
  let ⟨G, h1, h2, h3⟩ := h; ⟨G, h1.below hb, h2, bon h3 hb⟩
theorem CntSt.same {W0 wx : World} {bm : Nat} {P Q : Int → Prop} {B C : Int} (h : CntSt W0 bm P B wx) (hp : ∀ y, P y ↔ Q y) (hB : B ≤ C) : CntSt W0 bm Q C wx :=
  let ⟨G, h1, h2, h3⟩ := h; ⟨G, h1, fun y => ⟨(h2 y).1, Int.le_trans (h2 y).2.1 hB, (h2 y).2.2.trans (hp y)⟩, h3⟩
theorem CntSt.put {W0 wx w7 : World} {bm : Nat} {P Q : Int → Prop} {B : Int} {G : Int → Int} {x : Int} (hG : ∀ y, 0 ≤ G y ∧ G y ≤ B ∧ (0 < G y ↔ P y)) (hb : Below W0.heap.size W0 wx) (hbm : W0.heap.size ≤ bm)
    (hm : MapIs (Value.int .i64) w7 bm (upd (mapI G) x (some (.int .i64 (G x + 1))))) (hg : wx.grownBy w7 (some bm)) (hQ : ∀ y, Q y ↔ P y ∨ y = x) : CntSt W0 bm Q (B + 1) w7 := by
  have hx := hG x
  have hsz := hb.size
  refine ⟨setI G x (G x + 1), by rw [mapI_set (by omega)]; exact hm, fun y => ?_, hb.trans ⟨hg.os, hg.tape, hg.output, hg.size, fun i hi => hg.block i (by omega) (fun e => by have := Option.some.inj e; omega)⟩⟩
  rw [hQ y]
  by_cases e : y = x
  · subst e
    have e2 : setI G y (G y + 1) y = G y + 1 := by simp [setI]
    rw [e2]
    exact ⟨by omega, by omega, ⟨fun _ => .inr rfl, fun _ => by omega⟩⟩
  · have e2 : setI G x (G x + 1) y = G y := by simp [setI, e]
    rw [e2]
    have := hG y
    exact ⟨this.1, by omega, ⟨fun h => .inl (this.2.2.1 h), fun h => this.2.2.2 (h.resolve_right e)⟩⟩
def fnL (N : Nat) (F : Nat → Int) : List Value := (List.range N).map fun j => .int .i8 (F j)
theorem fnL_set (N : Nat) (F : Nat → Int) (q : Nat) (v : Int) : (fnL N F).set q (.int .i8 v) = fnL N (fun j => if j = q then v else F j) := by
  unfold fnL
  apply List.ext_getElem
  · simp
  · intro i h1 h2
    simp only [List.getElem_set, List.getElem_map, List.getElem_range]
    by_cases e : q = i
    · subst e; simp
    · rw [if_neg e, if_neg (fun h => e h.symm)]
theorem fnL_congr {N : Nat} {F G : Nat → Int} (h : ∀ j, j < N → F j = G j) : fnL N F = fnL N G := List.map_congr_left fun j hj => by rw [h j (List.mem_range.1 hj)]
theorem fnL_at {N : Nat} {F : Nat → Int} {j : Nat} (hj : j < N) : (fnL N F)[j]? = some (.int .i8 (F j)) := by simp [fnL, hj]
def ExSt (W2 : World) (N : Nat) (F : Nat → Int) (wx : World) : Prop := Below W2.heap.size W2 wx ∧ Blk wx W2.heap.size (fnL N F) 52
theorem ExSt.on {W2 wx wy : World} {N : Nat} {F : Nat → Int} (h : ExSt W2 N F wx) (hb : Below wx.heap.size wx wy) : ExSt W2 N F wy := ⟨bon h.1 hb, h.2.below hb⟩
theorem ExSt.put {W2 wx : World} {N q : Nat} {F G : Nat → Int} {v : Int} (h : ExSt W2 N F wx) (hG : ∀ j, j < N → G j = if j = q then v else F j) : ExSt W2 N G (wx.setCell ⟨W2.heap.size, q, none⟩ (.int .i8 v)) := by
  refine ⟨h.1.setCell (p := ⟨W2.heap.size, q, none⟩) (Nat.le_refl _) _, ?_⟩
  have := h.2.set q (.int .i8 v)
  rw [fnL_set, fnL_congr (G := G) fun j hj => (hG j hj).symm] at this
  exact this
end Go.Proofs.YteblddnoegbalaaGreat
namespace Go.Proofs.YteblddnoegbalaaGreat
def Total (a : List Int) : Prop := ∀ j, j < a.length → ix a j = 1 ∨ ix a j = -1
theorem onB_pos {a : List Int} (h : Total a) {n : Nat} (h1 : 1 ≤ n) (h2 : n ≤ a.length) : onB a (n : Int) = decide (0 < ix a (n - 1)) ∧ onB a (-(n : Int)) = decide (ix a (n - 1) < 0) := by
  have hp := offB_pos a n h1
  have hn := offB_neg a n
  rw [decide_eq_true h2, Bool.true_and] at hp hn
  unfold onB valI
  rw [Int.neg_neg]
  rcases h (n - 1) (by omega) with e | e
  · rw [e] at hp hn ⊢
    rw [hp, hn]
    decide
  · rw [e] at hp hn ⊢
    rw [hp, hn]
    decide
def tOf (a : List Int) (l : Int) : Bool := if l.natAbs ≤ a.length then onB a l else decide (0 < l)
theorem tOf_tot {a : List Int} (h : Total a) : Tot (tOf a) := fun l hl => by
  unfold tOf
  rw [Int.natAbs_neg]
  split
  · rename_i hn
    obtain ⟨n, h1, e⟩ : ∃ n : Nat, 1 ≤ n ∧ (l = n ∨ l = -(n : Int)) := ⟨l.natAbs, by omega, by omega⟩
    have hn' : n ≤ a.length := by omega
    obtain ⟨g1, g2⟩ := onB_pos h h1 hn'
    rcases e with rfl | rfl
    · rw [g1, g2]
      rcases h (n - 1) (by omega) with e | e <;> rw [e] <;> decide
    · rw [Int.neg_neg, g1, g2]
      rcases h (n - 1) (by omega) with e | e <;> rw [e] <;> decide
  · rcases Int.lt_or_gt_of_ne hl with h0 | h0
    · rw [decide_eq_true (show 0 < -l by omega), decide_eq_false (show ¬ 0 < l by omega)]; rfl
    · rw [decide_eq_false (show ¬ 0 < -l by omega), decide_eq_true (show 0 < l by omega)]; rfl
theorem sumW_congr {t u : Int → Bool} : ∀ {l : List (Int × Int)}, (∀ x ∈ l, t x.1 = u x.1) → sumW t l = sumW u l
  | [], _ => rfl
  | x :: l, h => by simp only [sumW, h x (.head _), sumW_congr (l := l) fun y hy => h y (.tail _ hy)]
end Go.Proofs.YteblddnoegbalaaGreat
namespace Go.Proofs.YteblddnoegbalaaGreat
open Go.RowKit
attribute [local go_sem] memUpon
structure RFx (R : List GR) (n : Int) (w w1 : World) (nb ob b9 b6 b3 b8 : Nat) (ar : Option Addr) (cr : Nat) : Prop where
  need : Blk w1 b6 [.slice (some ⟨nb, 0, none⟩) R.length R.length] 23
  out : Blk w1 b8 [.slice (some ⟨ob, 0, none⟩) n.toNat n.toNat] 23
  rbox : Blk w1 b3 [.slice ar R.length cr] 30
  rules : RulesIs w (.slice ar R.length cr) R
  below : Below w.heap.size w w1
  lo : w.heap.size ≤ nb ∧ w.heap.size ≤ ob ∧ w.heap.size ≤ b9 ∧ w.heap.size ≤ b6 ∧ w.heap.size ≤ b3 ∧ w.heap.size ≤ b8
  lt : nb < w1.heap.size ∧ ob < w1.heap.size ∧ b9 < w1.heap.size
  ne : nb ≠ ob ∧ nb ≠ b9 ∧ ob ≠ b9 ∧ b6 ≠ nb ∧ b6 ≠ ob ∧ b6 ≠ b9 ∧ b8 ≠ nb ∧ b8 ≠ ob ∧ b8 ≠ b9 ∧ b3 ≠ nb ∧ b3 ≠ ob ∧ b3 ≠ b9
structure RSt (w1 : World) (nb ob b9 : Nat) (nd od l : List Int) (wx : World) : Prop where
  lim : Lim w1.heap.size [nb, ob, b9] w1 wx
  need : Blk wx nb (nd.map (Value.int .i64)) 3
  out : Blk wx ob (od.map (Value.int .i64)) 3
  now : ∃ an cn, Blk wx b9 [.slice an l.length cn] 23 ∧ QRow w1.heap.size wx (.slice an l.length cn) l
section
variable {R : List GR} {n : Int} {w w1 wx w' : World} {nb ob b9 b6 b3 b8 : Nat} {ar : Option Addr} {cr : Nat} {nd od l : List Int}
theorem RSt.on (h : RSt w1 nb ob b9 nd od l wx) (hb : Below wx.heap.size wx w') : RSt w1 nb ob b9 nd od l w' := by
  obtain ⟨an, cn, h1, h2⟩ := h.now
  exact ⟨h.lim.trans (.of_below hb h.lim.size), h.need.below hb, h.out.below hb, an, cn, h1.below hb, h2.kept fun i _ hi _ => hb.block i hi⟩
theorem RFx.at (hf : RFx R n w w1 nb ob b9 b6 b3 b8 ar cr) (h : RSt w1 nb ob b9 nd od l wx) :
    Blk wx b6 [.slice (some ⟨nb, 0, none⟩) R.length R.length] 23 ∧ Blk wx b8 [.slice (some ⟨ob, 0, none⟩) n.toNat n.toNat] 23 ∧ Blk wx b3 [.slice ar R.length cr] 30 ∧ Below w.heap.size w wx := by
  have hn := hf.ne
  have k : ∀ b, b < w1.heap.size → b ≠ nb → b ≠ ob → b ≠ b9 → wx.heap[b]? = w1.heap[b]? := fun b h1 h2 h3 h4 => h.lim.block b h1 (by simp [h2, h3, h4])
  refine ⟨hf.need.same (k _ hf.need.lt (by omega) (by omega) (by omega)), hf.out.same (k _ hf.out.lt (by omega) (by omega) (by omega)), hf.rbox.same (k _ hf.rbox.lt (by omega) (by omega) (by omega)), hf.below.trans ((h.lim.mono hf.below.size (fun i hi _ => hi)).below (fun i hi => ?_))⟩
  have := hf.lo
  simp only [List.mem_cons, List.not_mem_nil, or_false] at hi
  rcases hi with rfl | rfl | rfl <;> omega
theorem QRow.slenQ {base : Nat} {w : World} {v : Value} {l : List Int} (h : QRow base w v l) : ∃ a c, v = .slice a l.length c := by
  rcases h.2 with ⟨rfl, rfl⟩ | ⟨g, off, cap, cur, rfl, _⟩
  · exact ⟨_, _, rfl⟩
  · exact ⟨_, _, rfl⟩
theorem RSt.push {an : Option Addr} {cn : Nat} {v4 : Value} {x : Int} {w4 : World} (h : RSt w1 nb ob b9 nd od l wx) (hb : Blk wx b9 [.slice an l.length cn] 23) (hq : QRow w1.heap.size wx (.slice an l.length cn) l) (hne : nb ≠ b9 ∧ ob ≠ b9) (hlt : nb < w1.heap.size ∧ ob < w1.heap.size ∧ b9 < w1.heap.size)
    (hq4 : QRow w1.heap.size w4 v4 (l ++ [x])) (hg : wx.grownBy w4 (Value.slice an l.length cn).ownBlock) : Blk w4 b9 [.slice an l.length cn] 23 ∧ RSt w1 nb ob b9 nd od (l ++ [x]) (w4.setCell ⟨b9, 0, none⟩ v4) := by
  have hlow : ∀ i, i < w1.heap.size → some i ≠ (Value.slice an l.length cn).ownBlock := fun i hi e => by
    rcases hq.2 with ⟨e2, _⟩ | ⟨g, off, cap, cur, e2, hbg, _⟩
    · rw [e2] at e; cases e
    · rw [e2] at e; simp only [Value.ownBlock, Option.some.injEq] at e; omega
  have hs := h.lim.size
  have hk : ∀ i, i < w1.heap.size → w4.heap[i]? = wx.heap[i]? := fun i hi => hg.block i (by omega) (hlow i hi)
  obtain ⟨a4, c4, rfl⟩ := hq4.slenQ
  have hb4 := hb.same (hk _ hlt.2.2)
  refine ⟨hb4, ⟨(h.lim.trans ⟨hg.os, hg.tape, hg.output, hg.size, fun i hi _ => hk i hi⟩).trans (.setCell _ (.inl (by simp))), (h.need.same (hk _ hlt.1)).setOther _ _ hne.1, (h.out.same (hk _ hlt.2.1)).setOther _ _ hne.2, a4, c4, hb4.set 0 _, hq4.kept fun i hi _ _ => Below.heap_setCell _ _ _ _ (show i ≠ b9 by omega)⟩⟩
end
end Go.Proofs.YteblddnoegbalaaGreat
namespace Go.Proofs.YteblddnoegbalaaGreat
open Go.RowKit
def cells2 (u : Int × Int) : List Value := [.int .i64 u.1, .int .i64 u.2]
structure UT (nn B tb : Nat) (V : List Value) (U : Int → List (Int × Int)) (w : World) : Prop where
  tab : Blk w tb V 215
  len : V.length = nn + 1
  row : ∀ a : Nat, a ≤ nn → w.ownsRow B 216 2 (V.getD a nilS) (U a).length ((U a).flatMap cells2)
  dis : ∀ a a' : Nat, ∀ g, a ≤ nn → a' ≤ nn → (V.getD a nilS).ownBlock = some g → (V.getD a' nilS).ownBlock = some g → a = a'
  lo : tb < B ∧ B ≤ w.heap.size
section
variable {nn B tb : Nat} {V : List Value} {U : Int → List (Int × Int)} {w w' : World}
theorem UT.kept (h : UT nn B tb V U w) (hs : w.heap.size ≤ w'.heap.size) (hb : ∀ i, (i = tb ∨ B ≤ i) → i < w.heap.size → w'.heap[i]? = w.heap[i]?) : UT nn B tb V U w' := by
  refine ⟨h.tab.same (hb _ (.inl rfl) h.tab.lt), h.len, fun a ha => ⟨(h.row a ha).1, ?_⟩, h.dis, h.lo.1, by have := h.lo; omega⟩
  rcases (h.row a ha).2 with hn | ⟨g, cap, cur, e, hbg, hgg, rest⟩
  · exact .inl hn
  · exact .inr ⟨g, cap, cur, e, hbg, (hb g (.inr hbg) (Array.getElem?_eq_some_iff.1 hgg).1).trans hgg, rest⟩
theorem UT.below (h : UT nn B tb V U w) (hb : Below w.heap.size w w') : UT nn B tb V U w' := h.kept hb.size fun i _ hi => hb.block i hi
theorem row_block {base E size n : Nat} {xs : List Value} {v : Value} {g : Nat} (h : w.ownsRow base E size v n xs) (hg : v.ownBlock = some g) : base ≤ g ∧ g < w.heap.size := by
  rcases h.2 with ⟨rfl, _⟩ | ⟨g', cap, cur, rfl, hb, hgg, _⟩
  · cases hg
  · simp only [Value.ownBlock, Option.some.injEq] at hg
    subst hg
    exact ⟨hb, (Array.getElem?_eq_some_iff.1 hgg).1⟩
theorem getDV_set (V : List Value) (a b : Nat) (v : Value) (ha : a < V.length) : (V.set a v).getD b nilS = if b = a then v else V.getD b nilS := by
  simp only [List.getD_eq_getElem?_getD]
  by_cases h : b = a
  · subst h; rw [if_pos rfl, List.getElem?_set_self ha]; rfl
  · rw [if_neg h, List.getElem?_set_ne (by omega)]
theorem UT.push (h : UT nn B tb V U w) (a : Nat) (ha : a ≤ nn) (u : Int × Int) {g cap : Nat} (hown : w'.ownsRow B 216 2 (.slice (some ⟨g, 0, none⟩) ((U a).length + 1) cap) ((U a).length + 1) ((U a).flatMap cells2 ++ cells2 u))
    (hg : w.grownBy w' (V.getD a nilS).ownBlock) (hl : (V.getD a nilS).ownBlock = some g ∨ g = w.heap.size) :
    Blk w' tb V 215 ∧ UT nn B tb (V.set a (.slice (some ⟨g, 0, none⟩) ((U a).length + 1) cap)) (fun b => if b = (a : Int) then U b ++ [u] else U b) (w'.setCell ⟨tb, a, none⟩ (.slice (some ⟨g, 0, none⟩) ((U a).length + 1) cap)) := by
  have hlo := h.lo
  have hrow : ∀ g', (V.getD a nilS).ownBlock = some g' → B ≤ g' := fun g' e => (row_block (h.row a ha) e).1
  have htab : Blk w' tb V 215 := h.tab.same (hg.block _ h.tab.lt (fun e => by have := hrow _ e.symm; omega))
  refine ⟨htab, htab.set _ _, by simpa using h.len, fun b hb => ?_, fun b b' g' hb hb' => ?_, hlo.1, by have := hg.size; simp [World.setCell]; omega⟩
  · rw [getDV_set V a b _ (by have := h.len; omega)]
    have setK : ∀ {v : Value} {n : Nat} {xs : List Value} {nv : Value}, w'.ownsRow B 216 2 v n xs → (w'.setCell ⟨tb, a, none⟩ nv).ownsRow B 216 2 v n xs := fun {v n xs nv} hr => by
      refine ⟨hr.1, ?_⟩
      rcases hr.2 with hn | ⟨g', cap, cur, e, hbg, hgg, rest⟩
      · exact .inl hn
      · exact .inr ⟨g', cap, cur, e, hbg, (Below.heap_setCell _ _ _ _ (show g' ≠ tb by omega)).trans hgg, rest⟩
    by_cases e : b = a
    · subst e
      rw [if_pos rfl]
      simp only [if_true, List.length_append, List.length_singleton, List.flatMap_append, List.flatMap_cons, List.flatMap_nil, List.append_nil]
      exact setK hown
    · rw [if_neg e]
      simp only [show ¬ ((b : Int) = (a : Int)) by omega, if_false]
      refine setK ⟨(h.row b hb).1, ?_⟩
      rcases (h.row b hb).2 with hn | ⟨g', cap', cur, e', hbg, hgg, rest⟩
      · exact .inl hn
      · refine .inr ⟨g', cap', cur, e', hbg, (hg.block g' (Array.getElem?_eq_some_iff.1 hgg).1 (fun e2 => e (h.dis b a g' hb ha (by rw [e']; rfl) e2.symm))).trans hgg, rest⟩
  · have hlen := h.len
    rw [getDV_set V a b _ (by omega), getDV_set V a b' _ (by omega)]
    have key : ∀ c : Nat, c ≤ nn → c ≠ a → (V.getD c nilS).ownBlock ≠ some g := fun c hc hca e => by
      rcases hl with hl | hl
      · exact hca (h.dis c a g hc ha e hl)
      · have := (row_block (h.row c hc) e).2; omega
    by_cases e1 : b = a
    · by_cases e2 : b' = a
      · intro _ _; omega
      · rw [if_pos e1, if_neg e2]
        intro h1 h2
        simp only [Value.ownBlock, Option.some.injEq] at h1
        exact absurd (h1 ▸ h2) (key b' hb' e2)
    · by_cases e2 : b' = a
      · rw [if_neg e1, if_pos e2]
        intro h1 h2
        simp only [Value.ownBlock, Option.some.injEq] at h2
        exact absurd (h2 ▸ h1) (key b hb e1)
      · rw [if_neg e1, if_neg e2]
        exact h.dis b b' g' hb hb'
theorem UT.cell (h : UT nn B tb V U w) (a : Nat) (ha : a ≤ nn) : w.cell? ⟨tb, a, none⟩ = some (V.getD a nilS) := by
  rw [h.tab.cell]
  have := h.len
  rw [List.getElem?_eq_getElem (by omega)]
  simp [List.getD_eq_getElem?_getD, List.getElem?_eq_getElem (show a < V.length by omega)]
theorem flat2 : ∀ (L : List (Int × Int)) (i : Nat), i < L.length → (L.flatMap cells2)[i * 2]? = some (.int .i64 (L.getD i (0, 0)).1) ∧ (L.flatMap cells2)[i * 2 + 1]? = some (.int .i64 (L.getD i (0, 0)).2)
  | [], i, hi => absurd hi (Nat.not_lt_zero _)
  | q :: L, 0, _ => by simp [cells2]
  | q :: L, i + 1, hi => by
    have ih := flat2 L i (by simpa using hi)
    have e1 : (i + 1) * 2 = i * 2 + 1 + 1 := by omega
    simp only [List.flatMap_cons, cells2, List.cons_append, List.nil_append, e1, List.getElem?_cons_succ, List.getD_cons_succ]
    exact ih
theorem UT.at (h : UT nn B tb V U w) (a : Nat) (ha : a ≤ nn) : ∃ ad cap, V.getD a nilS = .slice ad (U a).length cap ∧ ∀ j, j < (U a).length → ∃ g, ad = some ⟨g, 0, none⟩ ∧ B ≤ g ∧ g < w.heap.size ∧ w.cell? ⟨g, j * 2, none⟩ = some (.int .i64 ((U a).getD j (0, 0)).1) ∧ w.cell? ⟨g, j * 2 + 1, none⟩ = some (.int .i64 ((U a).getD j (0, 0)).2) := by
  rcases (h.row a ha).2 with ⟨e, e2⟩ | ⟨g, cap, cur, e, hb, hg, hn, hm, hs, hx⟩
  · exact ⟨none, 0, by rw [e, e2], fun j hj => by omega⟩
  · refine ⟨_, cap, e, fun j hj => ⟨g, rfl, hb, (Array.getElem?_eq_some_iff.1 hg).1, ?_⟩⟩
    obtain ⟨h1, h2⟩ := flat2 (U a) j hj
    rw [← hx, List.getElem?_take_of_lt (by omega)] at h1 h2
    have c1 := cell_of_row w g (j * 2) cur _ (0, 0) hg
    have c2 := cell_of_row w g (j * 2 + 1) cur _ (0, 0) hg
    rw [c1, c2]
    exact ⟨by simpa using h1, by simpa using h2⟩
end
structure P1 (R : List GR) (nn : Nat) (W6 : World) (nb tb : Nat) (i : Nat) (nd : List Int) (V : List Value) (U : Int → List (Int × Int)) (wx : World) : Prop where
  lim : Lim W6.heap.size [nb, tb] W6 wx
  need : Blk wx nb (nd.map (Value.int .i64)) 3
  len : nd.length = R.length
  val : ∀ j, j < i → ix nd j = need0 (ixR R j)
  uses : UT nn W6.heap.size tb V U wx
  ne : nb ≠ tb ∧ nb < W6.heap.size
theorem P1.below {R : List GR} {nn nb tb i : Nat} {W6 wx w' : World} {nd : List Int} {V : List Value} {U : Int → List (Int × Int)} (h : P1 R nn W6 nb tb i nd V U wx) (hb : Below wx.heap.size wx w') : P1 R nn W6 nb tb i nd V U w' :=
  ⟨h.lim.trans (.of_below hb h.lim.size), h.need.below hb, h.len, h.val, h.uses.below hb, h.ne⟩
theorem P1.next {R : List GR} {nn nb tb i : Nat} {W6 wx : World} {nd : List Int} {V : List Value} {U : Int → List (Int × Int)} (h : P1 R nn W6 nb tb i nd V U wx) (hv : ix nd i = need0 (ixR R i)) : P1 R nn W6 nb tb (i + 1) nd V U wx :=
  ⟨h.lim, h.need, h.len, lt_succ_all h.val hv, h.uses, h.ne⟩
theorem P1.push {R : List GR} {nn nb tb i : Nat} {W6 wx w4 : World} {nd : List Int} {V : List Value} {U : Int → List (Int × Int)} (h : P1 R nn W6 nb tb i nd V U wx) (a : Nat) (ha : a ≤ nn) (u : Int × Int) {g cap : Nat} (hown : w4.ownsRow W6.heap.size 216 2 (.slice (some ⟨g, 0, none⟩) ((U a).length + 1) cap) ((U a).length + 1) ((U a).flatMap cells2 ++ cells2 u))
    (hg : wx.grownBy w4 (V.getD a nilS).ownBlock) (hl : (V.getD a nilS).ownBlock = some g ∨ g = wx.heap.size) :
    Blk w4 tb V 215 ∧ P1 R nn W6 nb tb i nd (V.set a (.slice (some ⟨g, 0, none⟩) ((U a).length + 1) cap)) (fun b => if b = (a : Int) then U b ++ [u] else U b) (w4.setCell ⟨tb, a, none⟩ (.slice (some ⟨g, 0, none⟩) ((U a).length + 1) cap)) := by
  obtain ⟨h1, h2⟩ := h.uses.push a ha u hown hg hl
  have hn := h.ne
  have hs := h.lim.size
  have hlow : ∀ j, j < W6.heap.size → w4.heap[j]? = wx.heap[j]? := fun j hj => hg.block j (by omega) (fun e => by have := (row_block (h.uses.row a ha) e.symm).1; omega)
  refine ⟨h1, (h.lim.trans ⟨hg.os, hg.tape, hg.output, hg.size, fun j hj _ => hlow j hj⟩).trans (.setCell _ (.inl (by simp))), (h.need.same (hlow _ hn.2)).setOther _ _ hn.1, h.len, h.val, h2, h.ne⟩
theorem P1.blk {R : List GR} {nn nb tb i b : Nat} {c : List Value} {T : TypeId} {W6 wx : World} {nd : List Int} {V : List Value} {U : Int → List (Int × Int)} (h : P1 R nn W6 nb tb i nd V U wx) (hb : Blk W6 b c T) (h1 : b ≠ nb) (h2 : b ≠ tb) : Blk wx b c T :=
  hb.same (h.lim.block b hb.lt (by simp [h1, h2]))
theorem P1.bel {R : List GR} {nn nb tb i : Nat} {w W6 wx : World} {nd : List Int} {V : List Value} {U : Int → List (Int × Int)} (h : P1 R nn W6 nb tb i nd V U wx) (hb : Below w.heap.size w W6) (h1 : w.heap.size ≤ nb) (h2 : w.heap.size ≤ tb) : Below w.heap.size w wx :=
  hb.trans ((h.lim.mono hb.size (fun i hi _ => hi)).below (fun i hi => by simp only [List.mem_cons, List.not_mem_nil, or_false] at hi; omega))
attribute [local go_sem] memUpon
theorem RSt.clear {w1 wx : World} {nb ob b9 : Nat} {nd od l : List Int} (h : RSt w1 nb ob b9 nd od l wx) (hne : nb ≠ b9 ∧ ob ≠ b9) : RSt (wx.setCell ⟨b9, 0, none⟩ (.slice none 0 0)) nb ob b9 nd od [] (wx.setCell ⟨b9, 0, none⟩ (.slice none 0 0)) := by
  obtain ⟨an, cn, h1, h2⟩ := h.now
  exact ⟨.refl _ _ _, h.need.setOther _ _ hne.1, h.out.setOther _ _ hne.2, none, 0, h1.set 0 _, QRow.nil _ _⟩
theorem RSt.back {w1 wx wy : World} {nb ob b9 : Nat} {nd od l nd' od' l' : List Int} {v : Value} (h : RSt w1 nb ob b9 nd od l wx) (k : RSt (wx.setCell ⟨b9, 0, none⟩ v) nb ob b9 nd' od' l' wy) : RSt w1 nb ob b9 nd' od' l' wy := by
  obtain ⟨an, cn, h1, h2⟩ := k.now
  have hs : (wx.setCell ⟨b9, 0, none⟩ v).heap.size = wx.heap.size := by simp [World.setCell]
  have hz := h.lim.size
  exact ⟨(h.lim.trans (.setCell _ (.inl (by simp)))).trans (k.lim.mono (by omega) (fun i hi _ => hi)), k.need, k.out, an, cn, h1, h2.mono (by omega)⟩
theorem RFx.clear {R : List GR} {n : Int} {w w1 wx : World} {nb ob b9 b6 b3 b8 : Nat} {ar : Option Addr} {cr : Nat} {nd od l : List Int} (hf : RFx R n w w1 nb ob b9 b6 b3 b8 ar cr) (h : RSt w1 nb ob b9 nd od l wx) (v : Value) : RFx R n w (wx.setCell ⟨b9, 0, none⟩ v) nb ob b9 b6 b3 b8 ar cr := by
  obtain ⟨h6, h8, h3, hb⟩ := hf.at h
  have := h.lim.size
  have h1 := hf.lt
  have h2 := hf.ne
  have h4 := hf.lo
  have hs : (wx.setCell ⟨b9, 0, none⟩ v).heap.size = wx.heap.size := by simp [World.setCell]
  exact ⟨h6.setOther _ _ (by omega), h8.setOther _ _ (by omega), h3.setOther _ _ (by omega), hf.rules, hb.setCell (show w.heap.size ≤ b9 by omega) _, hf.lo, by omega, hf.ne⟩
theorem Lv.turn {n : Int} {R : List GR} {C l od nd nd' : List Int} (h : Lv n R C l od nd) (hn : nd'.length = R.length) : Lv n R (C ++ l) [] od nd' :=
  ⟨by simpa using h.nodup, by simpa using h.range, h.olen, hn, by simpa using h.out, by simpa using h.der⟩
theorem UT.lim {nn B tb nb ob b9 : Nat} {V : List Value} {U : Int → List (Int × Int)} {w1 wx : World} (h : UT nn B tb V U w1) (hl : Lim w1.heap.size [nb, ob, b9] w1 wx) (hn : tb ≠ nb ∧ tb ≠ ob ∧ tb ≠ b9) (hB : nb < B ∧ ob < B ∧ b9 < B) : UT nn B tb V U wx :=
  h.kept hl.size fun i hi hi2 => hl.block i hi2 (by simp only [List.mem_cons, List.not_mem_nil, or_false]; omega)
theorem QRow.lo {base : Nat} {w : World} {b o n c : Nat} {l : List Int} (h : QRow base w (.slice (some ⟨b, o, none⟩) n c) l) : base ≤ b := by
  rcases h.2 with ⟨e, _⟩ | ⟨g, off, cap, cur, e, hb, _⟩
  · cases e
  · simp only [Value.slice.injEq, Option.some.injEq, Addr.mk.injEq] at e
    omega
theorem Lv.at {n : Int} {R : List GR} {C l od nd : List Int} (h : Lv n R C l od nd) {j : Nat} (hj : j < l.length) : 1 ≤ ix l j ∧ ix l j ≤ n :=
  h.range _ (List.mem_append_right _ (ix_mem hj))
end Go.Proofs.YteblddnoegbalaaGreat
namespace Go.Proofs.YteblddnoegbalaaGreat
open Go.RowKit
structure SP where
  H : Nat
  T : Nat
  b : Nat
  bh : Nat
  bu : Nat
  bf : Nat
  bk : Nat
  vn : Value
  vr : Value
  gh : Int → Option Value
  gu : Int → Option Value
  Rh : Int → List Int
  Ru : Int → List Int
  qh : Nat → Value
  qb : Nat → Value
  qw : Nat → Value
structure FixC (s : SP) (p : GP) (w : World) : Prop where
  names : Strs w s.vn p.names
  rulesA : RulesAt w s.vr p.rules s.qh s.qb s.qw
  heads : MapIs (Value.int .i64) w s.bh s.gh
  uses : MapIs (Value.int .i64) w s.bu s.gu
  headRow : ∀ x, Ints w ((s.gh x).getD nilS) (s.Rh x)
  useRow : ∀ x, Ints w ((s.gu x).getD nilS) (s.Ru x)
theorem FixC.rules {s : SP} {p : GP} {w : World} (h : FixC s p w) : RulesIs w s.vr p.rules := ⟨_, _, _, h.rulesA⟩
theorem FixC.cells {s : SP} {p : GP} {w : World} (h : FixC s p w) : ∃ a cap, s.vr = .slice a p.rules.length cap ∧ (0 < p.rules.length → ∃ b off, a = some ⟨b, off, none⟩ ∧ b < w.heap.size ∧ ∀ i, i < p.rules.length → RuleCells w b (off + i * 6) (ixR p.rules i) (s.qh i) (s.qb i) (s.qw i)) := by
  obtain ⟨a, cap, e, h1, hm, h2, h3⟩ := h.rulesA.1
  refine ⟨a, cap, e, fun hp => ?_⟩
  obtain ⟨b, off, e, hl, hc⟩ := h3 hp
  exact ⟨b, off, e, hl, fun i hi => ⟨hc i hi 0 (by omega), hc i hi 1 (by omega), hc i hi 2 (by omega), hc i hi 3 (by omega), hc i hi 4 (by omega), hc i hi 5 (by omega)⟩⟩
end Go.Proofs.YteblddnoegbalaaGreat
namespace Go.Proofs.YteblddnoegbalaaGreat
open Go.RowKit Go.MapKept
section
variable {κ : Type} {kv : κ → Value} {d : TypeDesc} {P : Program} {w : World} {b : Nat} {g : κ → Option Value} {t kt et : TypeId}
def MapE (kv : κ → Value) (w : World) (b : Nat) (g : κ → Option Value) (k : κ) (c : Nat) : Prop :=
  ∃ es clock, w.heap[b]? = some (.map es clock) ∧ Stamped es clock ∧ (∀ x ∈ es.toList, ∃ k, x.key = kv k) ∧ (∀ k' v, k' ≠ k → (g k' = some v ↔ ∃ x ∈ es.toList, x.key = kv k' ∧ x.val = v)) ∧
    ∃ (j : Nat) (e : MapEntry), es[j]? = some e ∧ e.key = kv k ∧ e.born = c
theorem MapIs.entry [DecidableEq κ] (h : MapIs kv w b g) (V : KV kv d) (ht : P.underlying t = some (.map kt et)) (hd : P.underlying kt = some d) {z : Value} (hz : (zeroValue et).run P w = .ok z w) (k : κ) :
    ∃ (w' : World) (v0 : Value) (c : Nat), (Instr.mapEntry t (.map (some b)) (kv k)).run P w = .ok (.tuple #[v0, goInt (c : Int)]) w' ∧ MapE kv w' b g k c ∧ w.grownBy w' (some b) ∧ w'.heap.size = w.heap.size := by
  obtain ⟨es, clock, hb, hs, hks, hg⟩ := h
  have hks' : ∀ x ∈ es.toList, IsKey d x.key := fun x hx => let ⟨k, e⟩ := hks x hx; e ▸ V.key k
  rcases findNow_spec (V.key k) es.toList 0 hks' with ⟨h1, h2⟩ | ⟨j, e, h1, h2, h3⟩
  · refine ⟨{ w with heap := w.heap.setIfInBounds b (.map (es.push { key := kv k, val := z, born := clock }) (clock + 1)) }, z, clock, ?_, ⟨_, _, (heap_set hb).1, stamped_push hs h2, ?_, ?_, es.size, { key := kv k, val := z, born := clock }, by simp, rfl, rfl⟩, grownBy_set b _ hb, by simp⟩
    · simp [Instr.mapEntry, run_underlying ht, Go.MapKept.run_getObj_map hb, run_checkKey hd (V.key k), run_findKey hd h1, hz, Go.MapKept.run_setObj_map _ hb, Result.andThen]
    · intro x hx
      simp only [Array.toList_push, List.mem_append, List.mem_singleton] at hx
      rcases hx with hx | rfl
      · exact hks x hx
      · exact ⟨k, rfl⟩
    · intro k' v' hk
      simp only [Array.toList_push, List.mem_append, List.mem_singleton]
      rw [hg]
      constructor
      · rintro ⟨x, hx, h4⟩; exact ⟨x, .inl hx, h4⟩
      · rintro ⟨x, hx | rfl, h4, h5⟩
        · exact ⟨x, hx, h4, h5⟩
        · exact absurd (V.inj _ _ h4).symm hk
  · have hj : es[j]? = some e := by simpa using h2
    have hjl : j < es.size := (Array.getElem?_eq_some_iff.1 hj).1
    have hej : es[j] = e := by rw [Array.getElem?_eq_getElem hjl] at hj; exact Option.some.inj hj
    have hkey : ∀ e', es[j]? = some e' → ({ e' with key := kv k } : MapEntry).key = e'.key := fun e' he' => by rw [hj] at he'; cases he'; exact h3.symm
    have hsame : es.modify j (fun e => { e with key := kv k }) = es := by
      apply Array.ext (by simp)
      intro i h4 h5
      rw [Array.getElem_modify]
      split
      · rename_i hji; subst hji; rw [hej, ← h3]
      · rfl
    refine ⟨{ w with heap := w.heap.setIfInBounds b (.map es clock) }, e.val, e.born, ?_, ⟨_, _, (heap_set hb).1, hs, hks, fun k' v' _ => hg k' v', j, e, hj, h3, rfl⟩, grownBy_set b _ hb, by simp⟩
    simp [Instr.mapEntry, run_underlying ht, Go.MapKept.run_getObj_map hb, run_checkKey hd (V.key k), run_findKey hd h1, hj, h3, run_keyThatStays (V.key k), Go.MapKept.run_setObj_map _ hb, Result.andThen, hsame]
theorem MapE.store [DecidableEq κ] {k : κ} {c : Nat} (h : MapE kv w b g k c) (V : KV kv d) (v : Value) :
    ∃ w', (Instr.entryStore t (.map (some b)) (goInt (c : Int)) v).run P w = .ok () w' ∧ MapIs kv w' b (upd g k (some v)) ∧ w.grownBy w' (some b) ∧ w'.heap.size = w.heap.size := by
  obtain ⟨es, clock, hb, hs, hks, hg, j, e, hj, h3, h4⟩ := h
  have hjl : j < es.size := (Array.getElem?_eq_some_iff.1 hj).1
  have hej : es[j] = e := by rw [Array.getElem?_eq_getElem hjl] at hj; exact Option.some.inj hj
  have hborn : ∀ (p q : Nat) (hp : p < es.size) (hq : q < es.size), p < q → es[p].born ≠ es[q].born := fun p q hp hq hpq => by
    have := List.pairwise_iff_getElem.1 hs.2.1 p q (by simpa using hp) (by simpa using hq) hpq
    simpa using this
  have hkeys : ∀ (p q : Nat) (hp : p < es.size) (hq : q < es.size), p < q → es[p].key ≠ es[q].key := fun p q hp hq hpq => by
    have := List.pairwise_iff_getElem.1 hs.2.2 p q (by simpa using hp) (by simpa using hq) hpq
    simpa using this
  have hf : es.findIdx? (fun e => (e.born : Int) == (c : Int)) = some j := by
    rw [Array.findIdx?_eq_some_iff_getElem]
    refine ⟨hjl, by rw [hej, h4]; simp, fun i hi => ?_⟩
    have := hborn i j (by omega) hjl hi
    rw [hej, h4] at this
    simp; omega
  have huniq : ∀ i (hi : i < es.size), es[i].key = kv k → i = j := fun i hi he => by
    rcases Nat.lt_trichotomy i j with h5 | h5 | h5
    · exact absurd (he.trans (h3.symm.trans (by rw [hej]))) (hkeys i j hi hjl h5)
    · exact h5
    · exact absurd ((show es[j].key = kv k by rw [hej, h3]).trans he.symm) (hkeys j i hjl hi h5)
  refine ⟨{ w with heap := w.heap.setIfInBounds b (.map (es.modify j fun e => { e with val := v }) clock) }, ?_, ⟨_, _, (heap_set hb).1, stamped_modify hs _ _ (fun _ _ => rfl) (fun _ _ _ => rfl), ?_, ?_⟩, grownBy_set b _ hb, by simp⟩
  · simp [Instr.entryStore, Go.MapKept.run_getObj_map hb, goInt, asInt, asIntOf, hf, Go.MapKept.run_setObj_map _ hb, Result.andThen]
  · intro x hx
    obtain ⟨i, hi, rfl⟩ := List.mem_iff_getElem.1 hx
    simp only [Array.length_toList, Array.size_modify] at hi
    simp only [Array.getElem_toList, Array.getElem_modify]
    split
    · exact hks es[i] (by simp)
    · exact hks _ (by simp)
  · intro k' v'
    simp only [upd]
    by_cases hk : k' = k
    · subst hk
      rw [if_pos rfl]
      constructor
      · intro e'; cases e'
        refine ⟨(es.modify j fun e => { e with val := v })[j]'(by simpa using hjl), Array.getElem_mem_toList _, ?_, ?_⟩ <;> rw [Array.getElem_modify, if_pos rfl]
        rw [hej, h3]
      · rintro ⟨x, hx, h5, h6⟩
        obtain ⟨i, hi, rfl⟩ := List.mem_iff_getElem.1 hx
        simp only [Array.length_toList, Array.size_modify] at hi
        simp only [Array.getElem_toList, Array.getElem_modify] at h5 h6
        by_cases hij : j = i
        · rw [if_pos hij] at h6; rw [← h6]
        · rw [if_neg hij] at h5
          exact absurd (huniq i hi h5).symm hij
    · rw [if_neg hk, hg k' v' hk]
      constructor
      · rintro ⟨x, hx, h5, h6⟩
        obtain ⟨i, hi, rfl⟩ := List.mem_iff_getElem.1 hx
        simp only [Array.length_toList] at hi
        simp only [Array.getElem_toList] at h5 h6
        have hij : j ≠ i := fun e' => by subst e'; rw [hej, h3] at h5; exact hk (V.inj _ _ h5).symm
        refine ⟨(es.modify j fun e => { e with val := v })[i]'(by simpa using hi), Array.getElem_mem_toList _, ?_, ?_⟩ <;> simp only [Array.getElem_modify, if_neg hij] <;> assumption
      · rintro ⟨x, hx, h5, h6⟩
        obtain ⟨i, hi, rfl⟩ := List.mem_iff_getElem.1 hx
        simp only [Array.length_toList, Array.size_modify] at hi
        simp only [Array.getElem_toList, Array.getElem_modify] at h5 h6
        by_cases hij : j = i
        · rw [if_pos hij] at h5
          subst hij
          rw [hej, h3] at h5
          exact absurd (V.inj _ _ h5).symm hk
        · rw [if_neg hij] at h5 h6
          exact ⟨es[i], by simp, h5, h6⟩
end
end Go.Proofs.YteblddnoegbalaaGreat
namespace Go.Proofs.YteblddnoegbalaaGreat
open Go.RowKit
section
variable {base c1 q : Nat} {s : SP} {p : GP} {F K : Int → Int} {clock : Int} {a l : List Int} {w : World}
structure KeepS (s : SP) (W : World) where
  world : World
  size : W.heap.size ≤ world.heap.size
  block : ∀ i, i < W.heap.size → i ≠ s.bf → i ≠ s.bk → world.heap[i]? = W.heap[i]?
instance instKeepS (s : SP) (W : World) : Nonempty (KeepS s W) := ⟨⟨W, Nat.le_refl _, fun _ _ _ _ => rfl⟩⟩
theorem KeepS.cell {W : World} (e : KeepS s W) (b o : Nat) (hb : b < W.heap.size) (h1 : b ≠ s.bf) (h2 : b ≠ s.bk) : e.world.cell? ⟨b, o, none⟩ = W.cell? ⟨b, o, none⟩ := World.cell?_of_block (e.block b hb h1 h2)
end
end Go.Proofs.YteblddnoegbalaaGreat
