/- My texts StabP, Ex0, Shelf, merged. -/
import Derived.Test.YtgakoainjgjimaaGreatDoorM05
import Derived.Test.YtgakoainjgjimaaGreatDoorM04
import Derived.Test.YtgakoainjgjimaaGreatDoorM03
import Derived.Test.YtgakoainjgjimaaGreatDoorM00
import Derived.Test.YtgakoainjgjimaaGreatDoorProg
import Derived.WalkKit
import Derived.Lib.Hide
import Derived.Deep.QuietTactic
import Derived.BigQuiet
import Derived.WalkSpells
import Derived.Lib.SliceRun
import Derived.MapKept
import Derived.Maps.OwnSet
import Derived.Maps.OwnOps
import Derived.Test.YtgakoainjgjimaaGreatDoorM02
import Derived.Test.YtgakoainjgjimaaGreatDoorM01
import Derived.Deep.AppendLies
import Derived.Lib.Bytealg
import Derived.Deep.DeepCutAuto
import Derived.Laws.EntriesVeiled
import Derived.Deep.RegionWith
import Derived.Deep.OwnRows
import Derived.Test.YtgakoainjgjimaaGreatDoorM06
import Derived.RangeFuncNested
import Derived.RangeFuncBound
import Derived.RangeFuncCalls
import Derived.RangeFuncLeaves
import Derived.OwnWalkIn
import Derived.TacticsInMore
import Derived.LoopNIn
import Derived.LoopIn
import Derived.Stop.RegionWithIn
import Derived.Shelf.Abstract
import Derived.Deep.LoopGhost
import Derived.Deep.DrawnRows
import Derived.Shelf.Sort.Plain
import Derived.Shelf.Slices.CompactI
import Derived.Shelf.Slices.In.SortNone
import Derived.Shelf.Strconv.Itoa3
import Derived.Shelf.Strings.BuilderK
import Derived.Shelf.Slices.SearchI
import Derived.Shelf.Slices.Empties

namespace Go.Proofs.YtgakoainjgjimaaGreatDoor
open Go.RowKit
def posP (r : GR) : Nat → List (Int × Int)
  | 0 => []
  | k + 1 => if 0 < ix r.body k then posP r k ++ [(ix r.body k, ix r.w k)] else posP r k
def negW (m : List Int) (r : GR) : Nat → Int
  | 0 => 0
  | k + 1 => negW m r k + if ix r.body k < 0 ∧ -(ix r.body k) ∉ m then ix r.w k else 0
def fstL (l : List (Int × Int)) : List Int := l.map (·.1)
def sndL (l : List (Int × Int)) : List Int := l.map (·.2)
def redAt (m : List Int) (r : GR) (k : Nat) : GR := ⟨false, [], r.sum, r.bound - (if r.sum then negW m r k else 0), fstL (posP r k), if r.sum then sndL (posP r k) else []⟩
def hlT (T m : List Int) (l : Int) : Bool := if 0 < l then decide (l ∈ T) else !decide (-l ∈ m)
def avW (T m : List Int) (r : GR) : Nat → Int
  | 0 => 0
  | k + 1 => avW T m r k + if hlT T m (ix r.body k) then ix r.w k else 0
def avT (T m : List Int) (r : GR) : Bool := if r.sum then decide (r.bound ≤ avW T m r r.body.length) else allR r.body.length (fun j => hlT T m (ix r.body j))
theorem rule_parts {r : GR} {n : Int} (h : ruleE r n = 0) : increasingB r.head n = true ∧ (r.sum = false → r.bound = 0) := by
  unfold ruleE at h
  split at h
  · cases h
  · split at h
    · cases h
    · split at h
      · cases h
      · split at h
        · cases h
        · rename_i h1 h2 h3 h4
          refine ⟨?_, fun hs => ?_⟩
          · cases hi : increasingB r.head n with
            | true => rfl
            | false => exact absurd (.inl hi) h2
          · by_cases e : r.bound = 0
            · exact e
            · exact absurd (.inl ⟨hs, .inr e⟩) h4
theorem setQ_sorted {n : Int} {m : List Int} (h : setQ n m = true) : m.Pairwise (· < ·) := by
  rw [List.pairwise_iff_getElem]
  have hs : ∀ d i, i + d + 1 < m.length → ix m i < ix m (i + d + 1) := by
    intro d
    induction d with
    | zero =>
      intro i hi
      have := allR_get h (i + 1) hi
      unfold setTo at this
      simp only [Bool.and_eq_true, Bool.or_eq_true, decide_eq_true_eq, beq_iff_eq] at this
      have h1 := this.2
      rw [Nat.add_sub_cancel] at h1
      exact h1.resolve_left (by omega)
    | succ d ih =>
      intro i hi
      have h1 := ih i (by omega)
      have := allR_get h (i + (d + 1) + 1) hi
      unfold setTo at this
      simp only [Bool.and_eq_true, Bool.or_eq_true, decide_eq_true_eq, beq_iff_eq] at this
      have h2 := this.2.resolve_left (by omega)
      rw [show i + (d + 1) + 1 - 1 = i + d + 1 by omega] at h2
      omega
  intro i j hi hj hij
  have e : ∀ k, (hk : k < m.length) → ix m k = m[k] := fun k hk => by simp [ix, List.getD_eq_getElem?_getD, List.getElem?_eq_getElem hk]
  rw [← e i hi, ← e j hj]
  have := hs (j - i - 1) i (by omega)
  rw [show i + (j - i - 1) + 1 = j by omega] at this
  exact this
theorem setQ_rng {n : Int} {m : List Int} (h : setQ n m = true) {x : Int} (hx : x ∈ m) : 1 ≤ x ∧ x ≤ n := by
  obtain ⟨j, hj, rfl⟩ := mem_ix.1 hx
  have := allR_get h j hj
  unfold setTo at this
  simp only [Bool.and_eq_true, decide_eq_true_eq] at this
  exact this.1
theorem sub_len : ∀ {a b : List Int}, a.Nodup → (∀ x ∈ a, x ∈ b) → a.length ≤ b.length
  | [], _, _, _ => Nat.zero_le _
  | x :: a, b, hn, h => by
    rw [List.nodup_cons] at hn
    have hx := h x (by simp)
    have := sub_len (b := b.erase x) hn.2 fun y hy => (List.mem_erase_of_ne (fun (e : y = x) => hn.1 (e ▸ hy))).2 (h y (by simp [hy]))
    rw [List.length_erase_of_mem hx] at this
    have := List.length_pos_of_mem hx
    rw [List.length_cons]; omega
structure WY where
  atom : Int
  rule : Int
  level : Int
  deriving Inhabited, DecidableEq
structure XP where
  whys : List WY
  rest : List Int
structure BK where
  rule : Int
  kind : Int
  lit : Int
  deriving Inhabited, DecidableEq
def ixY (l : List WY) (i : Nat) : WY := l.getD i default
def ixK (l : List BK) (i : Nat) : BK := l.getD i default
def xE (p : GP) (m : List Int) : Int := if validE p ≠ 0 then validE p else if setQ p.n m = true then (if modelsB p m = true then 0 else 410) else 2
theorem xE_ok {p : GP} {m : List Int} (h : xE p m = 0) : validE p = 0 ∧ setQ p.n m = true ∧ modelsB p m = true := by
  unfold xE at h
  split at h
  · rename_i h1; exact absurd h h1
  · rename_i h1
    have h1 := Decidable.not_not.1 h1
    split at h
    · rename_i h2
      split at h
      · rename_i h3; exact ⟨h1, h2, h3⟩
      · cases h
    · cases h
theorem xE_of {p : GP} {m : List Int} (h1 : validE p = 0) (h2 : setQ p.n m = true) (h3 : modelsB p m = true) : xE p m = 0 := by
  unfold xE; rw [if_neg (by simp [h1]), if_pos h2, if_pos h3]
def soleB (m : List Int) (r : GR) (a : Int) : Bool := r.choice || !anyR r.head.length (fun j => decide (ix r.head j ≠ a) && decide (ix r.head j ∈ m))
def derT (T m : List Int) (r : GR) (a : Int) : Bool := decide (a ∈ r.head) && (soleB m r a && avT T m r)
def lvF (ws : List WY) (x : Int) : Int := ws.foldl (fun v y => if y.atom = x then y.level else v) 0
theorem lvF_nil (x : Int) : lvF [] x = 0 := rfl
theorem lvF_snoc (ws : List WY) (y : WY) (x : Int) : lvF (ws ++ [y]) x = if y.atom = x then y.level else lvF ws x := by simp [lvF]
def lvL (N : Nat) (ws : List WY) : List Int := (List.range (N + 1)).map fun (j : Nat) => lvF ws j
theorem lvL_len (N : Nat) (ws : List WY) : (lvL N ws).length = N + 1 := by simp [lvL]
theorem lvL_ix {N : Nat} {ws : List WY} {j : Nat} (hj : j ≤ N) : ix (lvL N ws) j = lvF ws j := by
  unfold ix lvL
  rw [List.getD_eq_getElem?_getD, List.getElem?_map, List.getElem?_range (by omega)]
  rfl
theorem lvL_set {N : Nat} {ws : List WY} {y : WY} {j : Nat} (hj : y.atom = j) : (lvL N ws).set j y.level = lvL N (ws ++ [y]) := by
  apply List.ext_getElem (by simp [lvL])
  intro i h1 h2
  simp only [List.length_set, lvL_len] at h1
  rw [List.getElem_set]
  simp only [lvL, List.getElem_map, List.getElem_range, lvF_snoc, hj]
  by_cases e : j = i
  · subst e; simp
  · rw [if_neg e, if_neg (by omega)]
def lvT (m lv : List Int) (most : Int) : List Int := m.filter fun x => decide (1 ≤ ix lv x.toNat) && decide (ix lv x.toNat ≤ most)
def atomsY (ws : List WY) : List Int := ws.map (·.atom)
def firR (p : GP) (m T : List Int) (a : Int) : Option Nat := (List.range p.rules.length).find? fun i => derT T m (ixR p.rules i) a
def nowX (p : GP) (m T : List Int) (k : Int) (l : List Int) : List WY := l.filterMap fun a => (firR p m T a).map fun (i : Nat) => ⟨a, i, k⟩
def doneX (m : List Int) (ws : List WY) : List Int := m.filter fun a => decide (a ∈ atomsY ws)
def leftX (m : List Int) (ws : List WY) : List Int := m.filter fun a => decide (a ∉ atomsY ws)
def expX (p : GP) (m : List Int) : Nat → Nat → List WY → XP
  | 0, _, ws => ⟨ws, leftX m ws⟩
  | f + 1, k, ws => if nowX p m (doneX m ws) k (leftX m ws) = [] then ⟨ws, leftX m ws⟩ else expX p m f (k + 1) (ws ++ nowX p m (doneX m ws) k (leftX m ws))
def explX (p : GP) (m : List Int) : XP := expX p m m.length 1 []
structure RndX (p : GP) (m : List Int) (k : Nat) (ws : List WY) : Prop where
  pos : 1 ≤ k
  lev : ∀ y ∈ ws, 1 ≤ y.level ∧ y.level < k
  sub : ∀ y ∈ ws, y.atom ∈ m
  nod : (atomsY ws).Nodup
  fuel : ∃ f : Nat, expX p m f k ws = explX p m ∧ (leftX m ws).length ≤ f
theorem RndX.start (p : GP) (m : List Int) : RndX p m 1 [] :=
  ⟨Nat.le_refl _, fun _ h => absurd h List.not_mem_nil, fun _ h => absurd h List.not_mem_nil, List.nodup_nil, m.length, rfl, List.length_filter_le _ _⟩
theorem lvF_fold (x : Int) : ∀ (ws : List WY) (v : Int), (x ∉ atomsY ws ∧ ws.foldl (fun v y => if y.atom = x then y.level else v) v = v) ∨ ∃ y ∈ ws, y.atom = x ∧ y.level = ws.foldl (fun v y => if y.atom = x then y.level else v) v
  | [], v => .inl ⟨by simp [atomsY], rfl⟩
  | z :: ws, v => by
    rw [List.foldl_cons]
    rcases lvF_fold x ws (if z.atom = x then z.level else v) with ⟨h1, h2⟩ | ⟨y, h1, h2, h3⟩
    · by_cases e : z.atom = x
      · exact .inr ⟨z, by simp, e, by rw [h2, if_pos e]⟩
      · refine .inl ⟨?_, by rw [h2, if_neg e]⟩
        unfold atomsY at h1 ⊢
        rw [List.map_cons, List.mem_cons]
        rintro (h | h)
        · exact e h.symm
        · exact h1 h
    · exact .inr ⟨y, by simp [h1], h2, h3⟩
theorem lvF_mem {ws : List WY} {x : Int} (h : lvF ws x ≠ 0) : ∃ y ∈ ws, y.atom = x ∧ y.level = lvF ws x := by
  rcases lvF_fold x ws 0 with ⟨-, h2⟩ | h2
  · exact absurd h2 h
  · exact h2
theorem lvF_in {ws : List WY} {x : Int} (h : x ∈ atomsY ws) : ∃ y ∈ ws, y.atom = x ∧ y.level = lvF ws x := by
  rcases lvF_fold x ws 0 with ⟨h2, -⟩ | h2
  · exact absurd h h2
  · exact h2
theorem lvF_out {ws : List WY} {x : Int} (h : x ∉ atomsY ws) : lvF ws x = 0 := Classical.byContradiction fun h0 => by
  obtain ⟨y, h1, h2, -⟩ := lvF_mem h0
  exact h (List.mem_map.2 ⟨y, h1, h2⟩)
theorem RndX.lvT {p : GP} {m : List Int} {k : Nat} {ws : List WY} (h : RndX p m k ws) {N : Nat} (hm : ∀ x ∈ m, 1 ≤ x ∧ x ≤ N) : lvT m (lvL N ws) ((k : Int) - 1) = doneX m ws := by
  unfold Go.Proofs.YtgakoainjgjimaaGreatDoor.lvT doneX
  refine List.filter_congr fun x hx => ?_
  have hr := hm x hx
  rw [lvL_ix (by omega), show ((x.toNat : Nat) : Int) = x by omega]
  by_cases hin : x ∈ atomsY ws
  · obtain ⟨y, h1, h2, h3⟩ := lvF_in hin
    have := h.lev y h1
    rw [← h3, decide_eq_true hin, decide_eq_true (by omega), decide_eq_true (by omega)]
    rfl
  · rw [lvF_out hin, decide_eq_false hin]; rfl
theorem RndX.left {p : GP} {m : List Int} {k : Nat} {ws : List WY} (h : RndX p m k ws) {x : Int} : decide (0 < lvF ws x) = decide (x ∈ atomsY ws) := by
  by_cases hin : x ∈ atomsY ws
  · obtain ⟨y, h1, h2, h3⟩ := lvF_in hin
    have := h.lev y h1
    rw [← h3, decide_eq_true hin, decide_eq_true (by omega)]
  · rw [lvF_out hin, decide_eq_false hin]; rfl
theorem nowX_mem {p : GP} {m T : List Int} {k : Int} {l : List Int} {y : WY} (h : y ∈ nowX p m T k l) : y.atom ∈ l ∧ y.level = k ∧ ∃ i : Nat, firR p m T y.atom = some i ∧ y.rule = i := by
  unfold nowX at h
  obtain ⟨a, ha, e⟩ := List.mem_filterMap.1 h
  obtain ⟨i, hi, rfl⟩ := Option.map_eq_some_iff.1 e
  exact ⟨ha, rfl, i, hi, rfl⟩
theorem nowX_atoms (p : GP) (m T : List Int) (k : Int) : ∀ l : List Int, (atomsY (nowX p m T k l)).Sublist l
  | [] => by simp [nowX, atomsY]
  | a :: l => by
    have ih := nowX_atoms p m T k l
    unfold nowX at ih ⊢
    rw [List.filterMap_cons]
    cases h : (firR p m T a).map fun (i : Nat) => (⟨a, i, k⟩ : WY) with
    | none => exact ih.trans (List.sublist_cons_self _ _)
    | some y =>
      obtain ⟨i, -, rfl⟩ := Option.map_eq_some_iff.1 h
      exact ih.cons_cons a
theorem leftX_step {m : List Int} {ws now : List WY} : leftX m (ws ++ now) = (leftX m ws).filter fun a => decide (a ∉ atomsY now) := by
  unfold leftX
  rw [List.filter_filter]
  refine List.filter_congr fun x _ => ?_
  unfold atomsY
  rw [List.map_append]
  simp only [List.mem_append, not_or, Bool.decide_and, Bool.and_comm]
theorem leftX_lt {p : GP} {m T : List Int} {k : Int} {ws : List WY} (hne : nowX p m T k (leftX m ws) ≠ []) : (leftX m (ws ++ nowX p m T k (leftX m ws))).length < (leftX m ws).length := by
  rw [leftX_step]
  obtain ⟨y, hy⟩ := List.exists_mem_of_ne_nil _ hne
  refine List.length_filter_lt_length_iff_exists.2 ⟨y.atom, (nowX_mem hy).1, ?_⟩
  have : y.atom ∈ atomsY (nowX p m T k (leftX m ws)) := List.mem_map.2 ⟨y, hy, rfl⟩
  simp [this]
theorem leftX_all {m : List Int} {ws now : List WY} : (leftX m ws).filter (fun a => decide (a ∉ atomsY (ws ++ now))) = leftX m (ws ++ now) := by
  unfold leftX
  rw [List.filter_filter]
  refine List.filter_congr fun x _ => ?_
  unfold atomsY
  rw [List.map_append]
  by_cases h : x ∈ List.map (fun y : WY => y.atom) ws
  · simp [h]
  · simp [h]
theorem RndX.next {p : GP} {m : List Int} {k : Nat} {ws : List WY} (h : RndX p m k ws) (hn : m.Nodup) (hne : nowX p m (doneX m ws) k (leftX m ws) ≠ []) : RndX p m (k + 1) (ws ++ nowX p m (doneX m ws) k (leftX m ws)) := by
  have hsub := nowX_atoms p m (doneX m ws) k (leftX m ws)
  refine ⟨by omega, fun y hy => ?_, fun y hy => ?_, ?_, ?_⟩
  · rcases List.mem_append.1 hy with hy | hy
    · have := h.lev y hy; omega
    · have := (nowX_mem hy).2.1; have := h.pos; omega
  · rcases List.mem_append.1 hy with hy | hy
    · exact h.sub y hy
    · exact (List.mem_filter.1 (nowX_mem hy).1).1
  · unfold atomsY at hsub ⊢
    rw [List.map_append, List.nodup_append]
    refine ⟨h.nod, (hn.sublist List.filter_sublist).sublist hsub, fun a ha b hb e => ?_⟩
    subst e
    have := (List.mem_filter.1 (hsub.subset hb)).2
    exact (of_decide_eq_true this) ha
  · obtain ⟨f, h1, h2⟩ := h.fuel
    have hlt := leftX_lt hne
    cases f with
    | zero => omega
    | succ f =>
      refine ⟨f, ?_, by omega⟩
      rw [← h1]
      exact (if_neg hne).symm
theorem RndX.done {p : GP} {m : List Int} {k : Nat} {ws : List WY} (h : RndX p m k ws) (he : nowX p m (doneX m ws) k (leftX m ws) = []) : explX p m = ⟨ws, leftX m ws⟩ := by
  obtain ⟨f, h1, h2⟩ := h.fuel
  rw [← h1]
  cases f with
  | zero => rfl
  | succ f => unfold expX; rw [if_pos he]
theorem RndX.size {p : GP} {m : List Int} {k : Nat} {ws : List WY} (h : RndX p m k ws) (_hn : m.Nodup) : ws.length ≤ m.length := by
  have : (atomsY ws).length ≤ m.length := by
    exact sub_len h.nod fun x hx => by
      obtain ⟨y, hy, rfl⟩ := List.mem_map.1 hx
      exact h.sub y hy
  unfold atomsY at this
  rwa [List.length_map] at this
def ordY (a b : WY) : Bool := decide (a.level < b.level) || (decide (a.level = b.level) && decide (a.atom ≤ b.atom))
def rngY (p : GP) (y : WY) : Bool := decide (1 ≤ y.atom) && (decide (y.atom ≤ p.n) && (decide (0 ≤ y.rule) && (decide (y.rule < p.rules.length) && decide (1 ≤ y.level))))
def chkX (p : GP) (m : List Int) (x : XP) : Bool :=
  allR x.whys.length (fun i => rngY p (ixY x.whys i)) && (decide ((x.rest ++ atomsY x.whys).Perm m) && (allR (x.rest.length - 1) (fun i => decide (ix x.rest i ≤ ix x.rest (i + 1))) && (allR (x.whys.length - 1) (fun i => ordY (ixY x.whys i) (ixY x.whys (i + 1))) &&
    allR x.whys.length (fun i => derT (lvT m (lvL p.n.toNat x.whys) ((ixY x.whys i).level - 1)) m (ixR p.rules (ixY x.whys i).rule.toNat) (ixY x.whys i).atom))))
def firI (f : Nat → Bool) (n : Nat) : Nat := ((List.range n).find? f).getD 0
def blkB (r : GR) (m : List Int) (i : Int) : BK :=
  if bodyT r m = false then (if r.sum then ⟨i, 2, 0⟩ else ⟨i, 1, ix r.body (firI (fun j => !litT m (ix r.body j)) r.body.length)⟩)
  else if r.choice then ⟨i, 4, 0⟩ else ⟨i, 3, ix r.head (firI (fun j => decide (ix r.head j ∈ m)) r.head.length)⟩
def blksTo (p : GP) (m : List Int) (a : Int) : Nat → List BK
  | 0 => []
  | k + 1 => if a ∈ (ixR p.rules k).head then blksTo p m a k ++ [blkB (ixR p.rules k) m k] else blksTo p m a k
def blksX (p : GP) (m : List Int) (a : Int) : List BK × Int :=
  if xE p m ≠ 0 then ([], xE p m) else if a < 1 ∨ p.n < a ∨ a ∈ m then ([], 2) else (blksTo p m a p.rules.length, 0)
end Go.Proofs.YtgakoainjgjimaaGreatDoor
namespace Go.Proofs.YtgakoainjgjimaaGreatDoor
open Go.Shelf
def Tryz.lays169_ren : Go.Shelf.Ren := ⟨fun | 169 => 51 | n => n, fun | 70 => 87 | 9 => 9 | 0 => 0 | 72 => 90 | 37 => 88 | 127 => 133 | 3 => 3 | 5 => 5 | n => n, fun | n => n⟩
theorem Tryz.lays169 : Go.Proofs.Lays.n169 Tryz.prog Tryz.lays169_ren := {
  mixed := by kernel_rfl
  f169 := Tryz.func51.trans (congrArg some (by kernel_rfl))
  t0 := Tryz.underlying0
  a0 := Tryz.isAgg0
  z0 := Tryz.sizeOf0
  v0 := Tryz.zeroValue0
  t3 := Tryz.underlying3
  a3 := Tryz.isAgg3
  z3 := Tryz.sizeOf3
  v3 := Tryz.zeroValue3
  t9 := Tryz.underlying9
  a9 := Tryz.isAgg9
  z9 := Tryz.sizeOf9
  v9 := Tryz.zeroValue9
  t37 := Tryz.underlying88
  a37 := Tryz.isAgg88
  z37 := Tryz.sizeOf88
  v37 := Tryz.zeroValue88
  t70 := Tryz.underlying87
  a70 := Tryz.isAgg87
  z70 := Tryz.sizeOf87
  v70 := Tryz.zeroValue87
  t72 := Tryz.underlying90
  a72 := Tryz.isAgg90
  z72 := Tryz.sizeOf90
  v72 := Tryz.zeroValue90
  t127 := Tryz.underlying133
  a127 := Tryz.isAgg133
  z127 := Tryz.sizeOf133
  v127 := Tryz.zeroValue133 }
theorem Tryz.Builder_Extra_169 : Builder.Extra Tryz.prog Tryz.lays169_ren := {
  sizeBuilder := by kernel_rfl
  liesBuilder := by kernel_rfl
  t5 := Tryz.underlying5
  a5 := Tryz.isAgg5
  z5 := Tryz.sizeOf5
  v5 := Tryz.zeroValue5
  infoByte := by kernel_rfl
  cellsByte := by kernel_rfl
  sizeByte := by kernel_rfl
  neB5 := by decide }
open Go.RowKit in
theorem Tryz.Builder_String_any_k (B b : Nat) (l : List UInt8) (w : World) (h : Lib.IsBuilderF 90 5 B b (Lib.byteCells l) w) (hBw : B ≤ w.heap.size) :
    Calls Tryz.prog 51 #[.pointer (some ⟨b, 0, none⟩)] w fun e w' => e = .returned (.string ⟨l.toArray⟩) ∧ (Lib.IsBuilderF 90 5 B b (Lib.byteCells l) w' ∧ Below B w w' ∧ Lib.OthersKept 5 (some b) w w') := Any.Builder_String_any_k Tryz.lays169 Tryz.Builder_Extra_169 B b l w h hBw
def Tryz.lays171_ren : Go.Shelf.Ren := ⟨fun | 171 => 49 | 243 => 101 | 246 => 140 | 283 => 172 | 284 => 173 | 285 => 174 | 286 => 175 | 129 => 139 | 317 => 192 | 318 => 193 | 319 => 194 | 320 => 195 | 337 => 199 | 338 => 200 | n => n, fun | 3 => 3 | 9 => 9 | 2 => 2 | 4 => 4 | 171 => 189 | 0 => 0 | 53 => 167 | 37 => 88 | 5 => 5 | 173 => 191 | 212 => 209 | 51 => 165 | 20 => 20 | 213 => 210 | 46 => 132 | 232 => 216 | 233 => 217 | n => n, fun | 17 => 1 | 18 => 4 | 19 => 5 | n => n⟩
theorem Tryz.lays171 : Go.Proofs.Lays.n171 Tryz.prog Tryz.lays171_ren := {
  mixed := by kernel_rfl
  f129 := Tryz.func139.trans (congrArg some (by kernel_rfl))
  f171 := Tryz.func49.trans (congrArg some (by kernel_rfl))
  f243 := Tryz.func101.trans (congrArg some (by kernel_rfl))
  f246 := Tryz.func140.trans (congrArg some (by kernel_rfl))
  f283 := Tryz.func172.trans (congrArg some (by kernel_rfl))
  f284 := Tryz.func173.trans (congrArg some (by kernel_rfl))
  f285 := Tryz.func174.trans (congrArg some (by kernel_rfl))
  f286 := Tryz.func175.trans (congrArg some (by kernel_rfl))
  f317 := Tryz.func192.trans (congrArg some (by kernel_rfl))
  f318 := Tryz.func193.trans (congrArg some (by kernel_rfl))
  f319 := Tryz.func194.trans (congrArg some (by kernel_rfl))
  f320 := Tryz.func195.trans (congrArg some (by kernel_rfl))
  f337 := Tryz.func199.trans (congrArg some (by kernel_rfl))
  f338 := Tryz.func200.trans (congrArg some (by kernel_rfl))
  t0 := Tryz.underlying0
  a0 := Tryz.isAgg0
  z0 := Tryz.sizeOf0
  v0 := Tryz.zeroValue0
  t2 := Tryz.underlying2
  a2 := Tryz.isAgg2
  z2 := Tryz.sizeOf2
  v2 := Tryz.zeroValue2
  t3 := Tryz.underlying3
  a3 := Tryz.isAgg3
  z3 := Tryz.sizeOf3
  v3 := Tryz.zeroValue3
  t4 := Tryz.underlying4
  a4 := Tryz.isAgg4
  z4 := Tryz.sizeOf4
  v4 := Tryz.zeroValue4
  t5 := Tryz.underlying5
  a5 := Tryz.isAgg5
  z5 := Tryz.sizeOf5
  v5 := Tryz.zeroValue5
  t9 := Tryz.underlying9
  a9 := Tryz.isAgg9
  z9 := Tryz.sizeOf9
  v9 := Tryz.zeroValue9
  t20 := Tryz.underlying20
  a20 := Tryz.isAgg20
  z20 := Tryz.sizeOf20
  v20 := Tryz.zeroValue20
  t37 := Tryz.underlying88
  a37 := Tryz.isAgg88
  z37 := Tryz.sizeOf88
  v37 := Tryz.zeroValue88
  t46 := Tryz.underlying132
  a46 := Tryz.isAgg132
  z46 := Tryz.sizeOf132
  v46 := Tryz.zeroValue132
  t51 := Tryz.underlying165
  a51 := Tryz.isAgg165
  z51 := Tryz.sizeOf165
  v51 := Tryz.zeroValue165
  t53 := Tryz.underlying167
  a53 := Tryz.isAgg167
  z53 := Tryz.sizeOf167
  v53 := Tryz.zeroValue167
  t171 := Tryz.underlying189
  a171 := Tryz.isAgg189
  z171 := Tryz.sizeOf189
  v171 := Tryz.zeroValue189
  t173 := Tryz.underlying191
  a173 := Tryz.isAgg191
  z173 := Tryz.sizeOf191
  v173 := Tryz.zeroValue191
  t212 := Tryz.underlying209
  a212 := Tryz.isAgg209
  z212 := Tryz.sizeOf209
  v212 := Tryz.zeroValue209
  t213 := Tryz.underlying210
  a213 := Tryz.isAgg210
  z213 := Tryz.sizeOf210
  t232 := Tryz.underlying216
  a232 := Tryz.isAgg216
  z232 := Tryz.sizeOf216
  v232 := Tryz.zeroValue216
  t233 := Tryz.underlying217
  a233 := Tryz.isAgg217
  z233 := Tryz.sizeOf217
  v233 := Tryz.zeroValue217
  g17 := by kernel_rfl
  g18 := by kernel_rfl
  g19 := by kernel_rfl }
open Go.RowKit Go.Sort Go.Lib in
theorem Tryz.strconv_Itoa_small (i : Nat) (hi : i < 100) (w : World) :
    Calls Tryz.prog 49 #[.int .i64 i] w fun e w' => e = .returned (.string ⟨(Lib.decDigits i).toArray⟩) ∧ w' = w := Any.strconv_Itoa_small Tryz.lays171 i hi w
def Tryz.lays189_ren : Go.Shelf.Ren := ⟨fun | 189 => 46 | 125 => 98 | 257 => 97 | 128 => 138 | 129 => 139 | 294 => 130 | 295 => 131 | 296 => 132 | 297 => 133 | 298 => 134 | 299 => 135 | 216 => 124 | 300 => 136 | 301 => 137 | 328 => 167 | 329 => 168 | 330 => 169 | 331 => 170 | 332 => 171 | 215 => 162 | 343 => 191 | n => n, fun | 28 => 23 | 3 => 3 | 46 => 132 | 0 => 0 | 51 => 165 | 53 => 167 | 4 => 4 | 183 => 159 | 182 => 158 | 131 => 123 | 5 => 5 | 9 => 9 | 218 => 183 | 222 => 187 | 228 => 205 | 229 => 206 | n => n, fun | n => n⟩
theorem Tryz.lays189 : Go.Proofs.Lays.n189 Tryz.prog Tryz.lays189_ren := {
  mixed := by kernel_rfl
  f125 := Tryz.func98.trans (congrArg some (by kernel_rfl))
  f128 := Tryz.func138.trans (congrArg some (by kernel_rfl))
  f129 := Tryz.func139.trans (congrArg some (by kernel_rfl))
  f189 := Tryz.func46.trans (congrArg some (by kernel_rfl))
  f215 := Tryz.func162.trans (congrArg some (by kernel_rfl))
  f216 := Tryz.func124.trans (congrArg some (by kernel_rfl))
  f257 := Tryz.func97.trans (congrArg some (by kernel_rfl))
  f294 := Tryz.func130.trans (congrArg some (by kernel_rfl))
  f295 := Tryz.func131.trans (congrArg some (by kernel_rfl))
  f296 := Tryz.func132.trans (congrArg some (by kernel_rfl))
  f297 := Tryz.func133.trans (congrArg some (by kernel_rfl))
  f298 := Tryz.func134.trans (congrArg some (by kernel_rfl))
  f299 := Tryz.func135.trans (congrArg some (by kernel_rfl))
  f300 := Tryz.func136.trans (congrArg some (by kernel_rfl))
  f301 := Tryz.func137.trans (congrArg some (by kernel_rfl))
  f328 := Tryz.func167.trans (congrArg some (by kernel_rfl))
  f329 := Tryz.func168.trans (congrArg some (by kernel_rfl))
  f330 := Tryz.func169.trans (congrArg some (by kernel_rfl))
  f331 := Tryz.func170.trans (congrArg some (by kernel_rfl))
  f332 := Tryz.func171.trans (congrArg some (by kernel_rfl))
  f343 := Tryz.func191.trans (congrArg some (by kernel_rfl))
  t0 := Tryz.underlying0
  a0 := Tryz.isAgg0
  z0 := Tryz.sizeOf0
  v0 := Tryz.zeroValue0
  t3 := Tryz.underlying3
  a3 := Tryz.isAgg3
  z3 := Tryz.sizeOf3
  v3 := Tryz.zeroValue3
  t4 := Tryz.underlying4
  a4 := Tryz.isAgg4
  z4 := Tryz.sizeOf4
  v4 := Tryz.zeroValue4
  t5 := Tryz.underlying5
  a5 := Tryz.isAgg5
  z5 := Tryz.sizeOf5
  v5 := Tryz.zeroValue5
  t9 := Tryz.underlying9
  a9 := Tryz.isAgg9
  z9 := Tryz.sizeOf9
  v9 := Tryz.zeroValue9
  t28 := Tryz.underlying23
  a28 := Tryz.isAgg23
  z28 := Tryz.sizeOf23
  v28 := Tryz.zeroValue23
  t46 := Tryz.underlying132
  a46 := Tryz.isAgg132
  z46 := Tryz.sizeOf132
  v46 := Tryz.zeroValue132
  t51 := Tryz.underlying165
  a51 := Tryz.isAgg165
  z51 := Tryz.sizeOf165
  v51 := Tryz.zeroValue165
  t53 := Tryz.underlying167
  a53 := Tryz.isAgg167
  z53 := Tryz.sizeOf167
  v53 := Tryz.zeroValue167
  t131 := Tryz.underlying123
  a131 := Tryz.isAgg123
  z131 := Tryz.sizeOf123
  v131 := Tryz.zeroValue123
  t182 := Tryz.underlying158
  a182 := Tryz.isAgg158
  z182 := Tryz.sizeOf158
  v182 := Tryz.zeroValue158
  t183 := Tryz.underlying159
  a183 := Tryz.isAgg159
  z183 := Tryz.sizeOf159
  v183 := Tryz.zeroValue159
  t218 := Tryz.underlying183
  a218 := Tryz.isAgg183
  z218 := Tryz.sizeOf183
  v218 := Tryz.zeroValue183
  t222 := Tryz.underlying187
  a222 := Tryz.isAgg187
  z222 := Tryz.sizeOf187
  v222 := Tryz.zeroValue187
  t228 := Tryz.underlying205
  a228 := Tryz.isAgg205
  z228 := Tryz.sizeOf205
  v228 := Tryz.zeroValue205
  t229 := Tryz.underlying206
  a229 := Tryz.isAgg206
  z229 := Tryz.sizeOf206
  v229 := Tryz.zeroValue206 }
open Go.Sort Go.RowKit in
theorem Tryz.slices_Sort_int (blk off cap : Nat) (zs : List Int) (w : World) (hH : Holds (Value.int .i64) w blk off zs.toArray) (hblk : blk < w.heap.size) (hsz : zs.length < 4611686018427387904) :
    Calls Tryz.prog 46 #[.slice (some ⟨blk, off, none⟩) zs.length cap] w fun e w' =>
      e = .returned (.tuple #[]) ∧ ∃ n os, w' = grow (putRow (Value.int .i64) (Sort.ahead w n) blk off (zs.mergeSort fun x y => decide (x ≤ y)).toArray) os := Any.slices_Sort_int Tryz.lays189 blk off cap zs w hH hblk hsz
def Tryz.laysNm225_ren : Go.Shelf.Ren := ⟨fun | 25 => 87 | 31 => 124 | 32 => 125 | 37 => 162 | n => n, fun | 22 => 23 | 3 => 3 | 4 => 4 | 40 => 132 | 0 => 0 | n => n, fun | n => n⟩
theorem Tryz.laysNm225 : Go.Proofs.Lays2.n25 Tryz.prog Tryz.laysNm225_ren := {
  mixed := by kernel_rfl
  f25 := Tryz.func87.trans (congrArg some (by kernel_rfl))
  f31 := Tryz.func124.trans (congrArg some (by kernel_rfl))
  f32 := Tryz.func125.trans (congrArg some (by kernel_rfl))
  f37 := Tryz.func162.trans (congrArg some (by kernel_rfl))
  t0 := Tryz.underlying0
  a0 := Tryz.isAgg0
  z0 := Tryz.sizeOf0
  v0 := Tryz.zeroValue0
  t3 := Tryz.underlying3
  a3 := Tryz.isAgg3
  z3 := Tryz.sizeOf3
  v3 := Tryz.zeroValue3
  t4 := Tryz.underlying4
  a4 := Tryz.isAgg4
  z4 := Tryz.sizeOf4
  v4 := Tryz.zeroValue4
  t22 := Tryz.underlying23
  a22 := Tryz.isAgg23
  z22 := Tryz.sizeOf23
  v22 := Tryz.zeroValue23
  t40 := Tryz.underlying132
  a40 := Tryz.isAgg132
  z40 := Tryz.sizeOf132
  v40 := Tryz.zeroValue132 }
open Go.RowKit Go.Lib in
theorem Tryz.slices_BinarySearch_int (b off n c : Nat) (zs : List Int) (x : Int) (w : World) (hz : n ≤ zs.length) (hbig : n < 4611686018427387904) (hc : ∀ j, j < zs.length → w.cell? ⟨b, off + j, none⟩ = some (.int .i64 (zs.getD j 0))) (hs : (zs.take n).Pairwise (· ≤ ·)) :
    Calls Tryz.prog 87 #[.slice (some ⟨b, off, none⟩) n c, .int .i64 x] w fun e w' => e = .returned (.tuple #[.int .i64 ((zs.take n).countP (· < x) : Nat), .bool ((zs.take n).contains x)]) ∧ ∃ q, w' = w.drewN q := Any.slices_BinarySearch_int Tryz.laysNm225 b off n c zs x w hz hbig hc hs
open Go.RowKit Go.Sort in
theorem Tryz.slices_Sort_int_none (p : Option Addr) (cap : Nat) (w : World) :
    Calls Tryz.prog 46 #[.slice p 0 cap] w fun e w' => e = .returned (.tuple #[]) ∧ w' = w := Any.slices_Sort_int_none Tryz.lays189 p cap w
open Go.RowKit Go.Lib in
theorem Tryz.slices_BinarySearch_int_empty (a : Option Addr) (c : Nat) (x : Int) (w : World) :
    Calls Tryz.prog 87 #[.slice a 0 c, .int .i64 x] w fun e w' => e = .returned (.tuple #[.int .i64 0, .bool false]) ∧ w' = w := Any.slices_BinarySearch_int_empty Tryz.laysNm225 a c x w
end Go.Proofs.YtgakoainjgjimaaGreatDoor
