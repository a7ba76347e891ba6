/- My texts Range, Nrm0, Nrm1, Cls, CpR, CpP, Mk0, Lp8R, Mk1, Rf27c, Ex2, merged. -/
import Derived.Test.YtgakoainjgjimaaGreatDoorM00
import Derived.Test.YtgakoainjgjimaaGreatDoorProg
import Derived.WalkKit
import Derived.Lib.Hide
import Derived.Deep.QuietTactic
import Derived.BigQuiet
import Derived.MapKept
import Derived.Maps.OwnSet
import Derived.Maps.OwnOps
import Derived.Maps.RangeWalk
import Derived.Test.YtgakoainjgjimaaGreatDoorM09
import Derived.Test.YtgakoainjgjimaaGreatDoorM11
import Derived.Test.YtgakoainjgjimaaGreatDoorM04
import Derived.Test.YtgakoainjgjimaaGreatDoorM03
import Derived.WalkSpells
import Derived.Lib.SliceRun
import Derived.Test.YtgakoainjgjimaaGreatDoorM02
import Derived.Test.YtgakoainjgjimaaGreatDoorM01
import Derived.Deep.AppendLies
import Derived.Lib.Bytealg
import Derived.Deep.DeepCutAuto
import Derived.RangeFuncNested
import Derived.RangeFuncBound
import Derived.RangeFuncCalls
import Derived.RangeFuncLeaves
import Derived.OwnWalkIn
import Derived.TacticsInMore
import Derived.LoopNIn
import Derived.LoopIn
import Derived.Stop.RegionWithIn
import Derived.Shelf.Abstract
import Derived.Lib.SlicesCompact
import Derived.Test.YtgakoainjgjimaaGreatDoorM07
import Derived.Shelf.Sort.Plain
import Derived.Shelf.Slices.CompactI
import Derived.Shelf.Slices.In.SortNone
import Derived.Shelf.Strconv.Itoa3
import Derived.Shelf.Strings.BuilderK
import Derived.Shelf.Slices.SearchI
import Derived.Shelf.Slices.Empties
import Derived.Sort.OwnSortedInts
import Derived.Sort.QuietThIn
import Derived.RangeFuncBox
import Derived.Maps.OwnIn
import Derived.Lib.RowBridge
import Derived.Deep.OwnRows
import Derived.Test.YtgakoainjgjimaaGreatDoorM05
import Derived.Laws.EntriesVeiled
import Derived.Deep.AppendSrc
import Derived.Test.YtgakoainjgjimaaGreatDoorM06
import Derived.Deep.RegionWith
import Derived.Deep.LoopGhost
import Derived.Deep.DrawnRows

namespace Go.Proofs.YtgakoainjgjimaaGreatDoor
open Go.RowKit Go.MapKept
open Go.ChangeMaps (setBlock)
def RangeIs {κ : Type} (kv : κ → Value) (w : World) (b r : Nat) (g : κ → Option Value) (left : κ → Bool) (cnt : Nat) : Prop :=
  ∃ es clock since seen c0, w.heap[b]? = some (.map es clock) ∧ Stamped es clock ∧ (∀ x ∈ es.toList, ∃ k, x.key = kv k) ∧ (∀ k v, g k = some v ↔ ∃ x ∈ es.toList, x.key = kv k ∧ x.val = v) ∧
    w.heap[r]? = some (.mapIter (some b) since seen c0) ∧ (∀ x ∈ es.toList, x.born < since) ∧ (leftOf es seen).size = cnt ∧
    (∀ x ∈ es.toList, ∀ k, x.key = kv k → left k = !seen.contains x.born) ∧ (∀ k, left k = true → ∃ v, g k = some v) ∧ since ≤ c0 ∧ since ≤ clock
section
variable {κ : Type} {kv : κ → Value} {P : Program} {w : World} {b r cnt : Nat} {g : κ → Option Value} {left : κ → Bool} {t kt et : TypeId}
theorem RangeIs.map (h : RangeIs kv w b r g left cnt) : MapIs kv w b g := by
  obtain ⟨es, clock, since, seen, c0, hb, hs, hk, hg, _⟩ := h
  exact ⟨es, clock, hb, hs, hk, hg⟩
theorem RangeIs.lt (h : RangeIs kv w b r g left cnt) : r < w.heap.size := by
  obtain ⟨es, clock, since, seen, c0, _, _, _, _, hr, _⟩ := h
  exact (Array.getElem?_eq_some_iff.1 hr).1
theorem RangeIs.same {w' : World} (h : RangeIs kv w b r g left cnt) (hb : w'.heap[b]? = w.heap[b]?) (hr : w'.heap[r]? = w.heap[r]?) : RangeIs kv w' b r g left cnt := by
  obtain ⟨es, clock, since, seen, c0, h1, h2, h3, h4, h5, rest⟩ := h
  exact ⟨es, clock, since, seen, c0, hb.trans h1, h2, h3, h4, hr.trans h5, rest⟩
theorem RangeIs.grown {w' : World} {row : Option Nat} (h : RangeIs kv w b r g left cnt) (hg : w.grownBy w' row) (hb : some b ≠ row) (hr : some r ≠ row) : RangeIs kv w' b r g left cnt :=
  h.same (hg.block b h.map.lt hb) (hg.block r h.lt hr)
theorem RangeIs.alloc (h : RangeIs kv w b r g left cnt) (o : Obj) : RangeIs kv (w.alloc o) b r g left cnt := h.same (Below.heap_alloc _ _ _ h.map.lt) (Below.heap_alloc _ _ _ h.lt)
theorem MapIs.range (h : MapIs kv w b g) (ht : P.underlying t = some (.map kt et)) :
    ∃ w' cnt, (Instr.range t (.map (some b))).run P w = .ok (.pointer (some ⟨w.heap.size, 0, none⟩)) w' ∧ RangeIs kv w' b w.heap.size g (fun k => (g k).isSome) cnt ∧ w.grownBy w' none ∧ w'.heap.size = w.heap.size + 1 := by
  have hlt := h.lt
  obtain ⟨es, clock, hb, hs, hk, hg⟩ := h
  have hst := (stamped_iff es clock).1 hs
  refine ⟨_, _, run_range_map w t kt et b es clock ht hb, ⟨es, clock, clock, #[], clock, ((MapKept.heap_alloc w _).2 b hlt).trans hb, hs, hk, hg, (MapKept.heap_alloc w _).1, hst.1, rfl, ?_, ?_, Nat.le_refl _, Nat.le_refl _⟩, World.grownBy_alloc w _ none, by simp⟩
  · intro x hx k e
    have : g k = some x.val := (hg k _).2 ⟨x, hx, e, rfl⟩
    simp [this]
  · intro k hk'
    exact Option.isSome_iff_exists.1 hk'
theorem RangeIs.next [DecidableEq κ] (h : RangeIs kv w b r g left cnt) (hinj : ∀ a c, kv a = kv c → a = c) (ty : TypeId) :
    (cnt = 0 ∧ (∀ k, left k = false) ∧ (Instr.next (.pointer (some ⟨r, 0, none⟩)) false ty).run P w = .ok (.tuple #[.bool false]) w) ∨
    ∃ k v w' cnt', left k = true ∧ g k = some v ∧ (Instr.next (.pointer (some ⟨r, 0, none⟩)) false ty).run P w = .ok (.tuple #[.bool true, kv k, v]) w' ∧
      RangeIs kv w' b r g (fun x => left x && !decide (x = k)) cnt' ∧ cnt' < cnt ∧ w.grownBy w' (some r) ∧ w'.heap.size = w.heap.size ∧ (Instr.entry (.pointer (some ⟨r, 0, none⟩))).run P w' = .ok (.tuple #[kv k, v]) w' := by
  obtain ⟨es, clock, since, seen, c0, hb, hs, hks, hg, hr, hold, rfl, hl1, hl2, hsc, hsk⟩ := h
  have hne : r ≠ b := by rintro rfl; rw [hb] at hr; cases hr
  have hst := (stamped_iff es clock).1 hs
  rcases run_next_at (P := P) w ty r b since c0 seen es clock hr hb hold hsc with ⟨h0, hrun⟩ | ⟨e, he, w1, hal, hrun⟩
  · refine Or.inl ⟨h0, fun k => ?_, hrun⟩
    cases hk : left k
    · rfl
    · obtain ⟨v, hv⟩ := hl2 k hk
      obtain ⟨x, hx, e, -⟩ := (hg k v).1 hv
      rw [hl1 x hx k e, all_seen es seen h0 x hx] at hk
      cases hk
  · obtain ⟨hem, hes⟩ := mem_left he
    obtain ⟨k, hk⟩ := hks e hem
    have hr1 : w1.heap[r]? = some (.mapIter (some b) since seen c0) := by rcases hal with rfl | rfl <;> exact hr
    have hb1 : w1.heap[b]? = some (.map es clock) := by rcases hal with rfl | rfl <;> exact hb
    have hset := heap_set (o' := .mapIter (some b) since (seen.push e.born) clock) hr1
    have hb' : (setBlock w1 r (.mapIter (some b) since (seen.push e.born) clock)).heap[b]? = some (.map es clock) := (hset.2 b (fun e1 => hne e1.symm)).trans hb1
    rw [hk] at hrun
    refine Or.inr ⟨k, e.val, _, _, by rw [hl1 e hem k hk, hes]; rfl, (hg k _).2 ⟨e, hem, hk, rfl⟩, hrun,
      ⟨es, clock, since, seen.push e.born, clock, hb', hs, hks, hg, hset.1, hold, rfl, fun x hx k' hk' => ?_, fun k' h' => hl2 k' (by simp at h'; exact h'.1), hsk, hsk⟩, left_shrinks es seen e he, ?_, ?_, ?_⟩
    · show (left k' && !decide (k' = k)) = _
      rw [hl1 x hx k' hk', contains_push]
      by_cases hxe : x.born = e.born
      · obtain rfl := born_inj hst.2.1 hx hem hxe
        have : k' = k := hinj _ _ (hk'.symm.trans hk)
        subst this
        simp
      · have : k' ≠ k := fun e2 => by
          subst e2
          have e3 := entry_eq_of_key hst.2.2 hx hem (hk'.trans hk.symm)
          exact hxe (by rw [e3])
        simp [this, hxe]
    · rcases hal with rfl | rfl <;> exact ⟨rfl, rfl, rfl, by simp [setBlock], fun i _ hi => hset.2 i (fun e1 => hi (by rw [e1]))⟩
    · rcases hal with rfl | rfl <;> simp [setBlock]
    · have := run_entry_at (P := P) _ r b since seen es clock e hset.1 hb' hem hst.2.1
      rw [hk] at this
      exact this
end
end Go.Proofs.YtgakoainjgjimaaGreatDoor
namespace Go.Proofs.YtgakoainjgjimaaGreatDoor
open Go.RowKit
def mapK (L K : List Int) (i : Nat) : Int → Option Value := fun v => if v ∈ keysOf (L.take i) then some (.int .i64 (byTo L K v i)) else none
structure Met (L : List Int) (left : Int → Bool) (ks : List Int) : Prop where
  nodup : ks.Nodup
  mem : ∀ v, v ∈ ks ↔ v ∈ keysOf L ∧ left v = false
theorem Met.start (L K : List Int) : Met L (fun v => (mapK L K L.length v).isSome) [] := by
  refine ⟨List.nodup_nil, fun v => ?_⟩
  simp only [List.not_mem_nil, false_iff, not_and, Bool.not_eq_false]
  intro h
  unfold mapK
  rw [List.take_length, if_pos h]
  rfl
theorem Met.push {L : List Int} {left : Int → Bool} {ks : List Int} (h : Met L left ks) {v : Int} (hv : left v = true) (hm : v ∈ keysOf L) : Met L (fun x => left x && !decide (x = v)) (ks ++ [v]) := by
  refine ⟨List.nodup_append.2 ⟨h.nodup, by simp, fun a ha b hb => ?_⟩, fun x => ?_⟩
  · rw [List.mem_singleton] at hb
    subst hb
    rintro rfl
    have := ((h.mem a).1 ha).2
    rw [hv] at this; cases this
  · rw [List.mem_append, List.mem_singleton, h.mem x]
    by_cases e : x = v
    · subst e
      simp [hm]
    · simp [e]
theorem keys_len : ∀ L : List Int, (keysOf L).length ≤ L.length
  | [] => by simp [keysOf]
  | l :: L => by
    have ih := keys_len L
    have : ∀ (v : Int) (l : List Int), (insK v l).length ≤ l.length + 1 := fun v l => by
      induction l with
      | nil => simp [insK]
      | cons x l ih => unfold insK; split <;> (try split) <;> simp <;> omega
    have := this (l.natAbs : Int) (keysOf L)
    simp only [keysOf, List.length_cons]
    omega
theorem Met.len {L : List Int} {left : Int → Bool} {ks : List Int} (h : Met L left ks) : ks.length ≤ L.length := by
  have h1 : ks.Perm ((keysOf L).filter fun x => decide (x ∈ ks)) :=
    nodup_perm h.nodup ((sorted_nodup (keys_sorted L)).filter _) fun x => by
      rw [List.mem_filter, decide_eq_true_eq]
      exact ⟨fun hx => ⟨((h.mem x).1 hx).1, hx⟩, fun hx => hx.2⟩
  have h2 := h1.length_eq
  have h3 := keys_len L
  have h4 := List.length_filter_le (fun x => decide (x ∈ ks)) (keysOf L)
  omega
def PBQ (base : Nat) (w : World) (v : Value) (c : PBC) : Prop := ∃ vl vk, v = .agg #[vl, vk, .int .i64 c.bound] ∧ QRow base w vl c.lits ∧ QRow base w vk c.coefs ∧ InI c.bound ∧ c.lits.length ≤ 65536 ∧ c.coefs.length ≤ 65536
theorem PBQ.is {base : Nat} {w : World} {v : Value} {c : PBC} (h : PBQ base w v c) : PBIs w v c :=
  let ⟨vl, vk, e, h1, h2, h3, h4, h5⟩ := h; ⟨vl, vk, e, h1.ints (by omega), h2.ints (by omega), h3⟩
theorem PBQ.below {base : Nat} {w w' : World} {v : Value} {c : PBC} (h : PBQ base w v c) (hb : Below w.heap.size w w') : PBQ base w' v c :=
  let ⟨vl, vk, e, h1, h2, h3⟩ := h; ⟨vl, vk, e, h1.below hb, h2.below hb, h3⟩
theorem made_row (z : Value) (n : Nat) : madeCells #[z] n = (List.replicate n z).toArray := by
  apply Array.ext
  · simp [size_madeCells]
  · intro i h1 h2
    simp [madeCells, Nat.mod_one]
def oneCells (N k : Nat) : List Value := List.replicate k (Value.int .i64 1) ++ List.replicate (N - k) (Value.int .i64 0)
theorem oneCells_set {N k : Nat} (hk : k < N) : (oneCells N k).set k (.int .i64 1) = oneCells N (k + 1) := by
  unfold oneCells
  rw [List.set_append_right _ _ (by simp)]
  obtain ⟨m, hm⟩ : ∃ m, N - k = m + 1 := ⟨N - k - 1, by omega⟩
  rw [hm, show N - (k + 1) = m by omega, List.length_replicate, Nat.sub_self, List.replicate_succ, List.set_cons_zero, List.replicate_succ', List.append_assoc]
  rfl
def OneSt (W : World) (N k : Nat) (wx : World) : Prop := Below W.heap.size W wx ∧ Blk wx W.heap.size (oneCells N k) 3
theorem OneSt.start (W : World) (N : Nat) : OneSt W N 0 (W.alloc (.cells (madeCells #[.int .i64 0] N) 3)) := by
  refine ⟨bal (Below.refl _ _) _, ?_⟩
  have := Blk.new W (List.replicate N (Value.int .i64 0)) 3
  rw [← made_row] at this
  simpa [oneCells] using this
theorem OneSt.step {W wx : World} {N k : Nat} (h : OneSt W N k wx) (hk : k < N) : OneSt W N (k + 1) (wx.setCell ⟨W.heap.size, k, none⟩ (.int .i64 1)) := by
  refine ⟨h.1.setCell (p := ⟨W.heap.size, k, none⟩) (Nat.le_refl _) _, ?_⟩
  have := h.2.set k (.int .i64 1)
  rwa [oneCells_set hk] at this
theorem OneSt.end {W wx : World} {N : Nat} (h : OneSt W N N wx) (hN : N * 8 ≤ 140737488351232) : Ints wx (.slice (some ⟨W.heap.size, 0, none⟩) N N) (ones N) := by
  have h2 := h.2
  have e : oneCells N N = (ones N).map (Value.int .i64) := by simp [oneCells, ones]
  rw [e] at h2
  have hl : (ones N).length = N := by simp [ones]
  have := h2.ints (fitI fun x hx => by obtain rfl := List.eq_of_mem_replicate hx; unfold InI; omega) (by rw [hl]; exact hN)
  rwa [hl] at this
def ixC (l : List PBC) (i : Nat) : PBC := l.getD i default
def pbCell (c : PBC) (vl vk : Value) : Nat → Value
  | 0 => vl
  | 1 => vk
  | _ => .int .i64 c.bound
structure PBSl (w : World) (c : PBC) (vl vk : Value) : Prop where
  lits : Ints w vl c.lits
  coefs : Ints w vk c.coefs
  bound : InI c.bound
theorem PBSl.below {w w' : World} {c : PBC} {vl vk : Value} (h : PBSl w c vl vk) (hb : Below w.heap.size w w') : PBSl w' c vl vk := ⟨h.lits.below hb, h.coefs.below hb, h.bound⟩
theorem PBSl.is {w : World} {c : PBC} {vl vk : Value} (h : PBSl w c vl vk) : PBIs w (.agg #[vl, vk, .int .i64 c.bound]) c := ⟨_, _, rfl, h.lits, h.coefs, h.bound⟩
def PBsIs (w : World) (v : Value) (l : List PBC) : Prop :=
  ∃ vl vk : Nat → Value, Rows w v 3 56 l.length (fun i => pbCell (ixC l i) (vl i) (vk i)) ∧ ∀ i, i < l.length → PBSl w (ixC l i) (vl i) (vk i)
theorem PBsIs.below {w w' : World} {v : Value} {l : List PBC} (h : PBsIs w v l) (hb : Below w.heap.size w w') : PBsIs w' v l :=
  let ⟨vl, vk, e, h1⟩ := h; ⟨vl, vk, e.below hb, fun i hi => (h1 i hi).below hb⟩
def PBCells (w : World) (b o : Nat) (c : PBC) (vl vk : Value) : Prop :=
  w.cell? ⟨b, o, none⟩ = some vl ∧ w.cell? ⟨b, o + 1, none⟩ = some vk ∧ w.cell? ⟨b, o + 2, none⟩ = some (.int .i64 c.bound)
theorem PBCells.below {w w' : World} {b o : Nat} {c : PBC} {vl vk : Value} (h : PBCells w b o c vl vk) (hb : Below w.heap.size w w') (hl : b < w.heap.size) : PBCells w' b o c vl vk :=
  ⟨(bcell hb _ _ hl).trans h.1, (bcell hb _ _ hl).trans h.2.1, (bcell hb _ _ hl).trans h.2.2⟩
theorem PBsIs.form {w : World} {v : Value} {l : List PBC} (h : PBsIs w v l) : ∃ a cap, v = .slice a l.length cap ∧ l.length ≤ cap ∧ l.length ≤ 1000000000000000 ∧ PBsIs w (.slice a l.length cap) l ∧
    (0 < l.length → ∃ b off, a = some ⟨b, off, none⟩ ∧ b < w.heap.size ∧ ∀ i, i < l.length → ∃ vl vk, PBCells w b (off + i * 3) (ixC l i) vl vk ∧ PBSl w (ixC l i) vl vk) := by
  have h0 := h
  obtain ⟨vl, vk, ⟨a, cap, rfl, h1, hm, h2, h3⟩, h4⟩ := h
  refine ⟨a, cap, rfl, h1, by omega, h0, fun hp => ?_⟩
  obtain ⟨b, off, e, hl, hc⟩ := h3 hp
  exact ⟨b, off, e, hl, fun i hi => ⟨vl i, vk i, ⟨hc i hi 0 (by omega), hc i hi 1 (by omega), hc i hi 2 (by omega)⟩, h4 i hi⟩⟩
def rowV (G : Int → Option Value) (x : Int) : Value := (G x).getD (.slice none 0 0)
structure SupM (B mb : Nat) (F : Int → List Int) (G : Int → Option Value) (w : World) : Prop where
  map : MapIs (Value.int .i64) w mb G
  row : ∀ x, QRow B w (rowV G x) (F x)
  far : ∀ x y, x ≠ y → ∀ g, (rowV G x).ownBlock = some g → (rowV G y).ownBlock ≠ some g
theorem SupM.below {B mb : Nat} {F : Int → List Int} {G : Int → Option Value} {w w' : World} (h : SupM B mb F G w) (hb : Below w.heap.size w w') : SupM B mb F G w' := ⟨h.map.below hb, fun x => (h.row x).below hb, h.far⟩
def setL' (F : Int → List Int) (x : Int) (l : List Int) : Int → List Int := fun y => if y = x then l else F y
theorem SupM.push {B mb : Nat} {F : Int → List Int} {G : Int → Option Value} {w w1 w2 : World} {x b : Int} {v' : Value} (h : SupM B mb F G w) (hq : QRow B w1 v' (F x ++ [b])) (hg : w.grownBy w1 (rowV G x).ownBlock) (ho : v'.ownBlock = (rowV G x).ownBlock ∨ v'.ownBlock = some w.heap.size)
    (hm : MapIs (Value.int .i64) w2 mb (upd G x (some v'))) (hg2 : w1.grownBy w2 (some mb)) (hm1 : MapIs (Value.int .i64) w1 mb G) : SupM B mb (setL' F x (F x ++ [b])) (upd G x (some v')) w2 := by
  have e1 : rowV (upd G x (some v')) x = v' := by unfold rowV; rw [upd_same]; rfl
  have e2 : ∀ y, y ≠ x → rowV (upd G x (some v')) y = rowV G y := fun y hy => by unfold rowV; rw [upd_other _ _ hy]
  have hkeep : ∀ (u : Value) (l : List Int), QRow B w1 u l → QRow B w2 u l := fun u l hu => hu.kept fun i _ hi hv => hg2.block i hi fun e => by
    obtain ⟨es, clock, em, -⟩ := hm1
    rcases hu.2 with ⟨rfl, _⟩ | ⟨g, off, cap, cur, rfl, _, hgg, _⟩
    · cases hv
    · have e3 : g = i := by simpa [Value.ownBlock] using hv
      have e4 : mb = i := by simpa using e.symm
      subst e3 e4
      rw [em] at hgg
      cases hgg
  refine ⟨hm, fun y => ?_, fun y z hyz g hy hz => ?_⟩
  · unfold setL'
    by_cases hy : y = x
    · subst hy
      rw [if_pos rfl, e1]
      exact hkeep _ _ hq
    · rw [if_neg hy, e2 y hy]
      refine hkeep _ _ ((h.row y).kept fun i _ hi hv => hg.block i hi fun e => h.far y x hy i hv e.symm)
  · have hlt : ∀ y g, (rowV G y).ownBlock = some g → g < w.heap.size := fun y g e => ((h.row y).base e).2
    by_cases h1 : y = x
    · subst h1
      have h2 : z ≠ y := fun e => hyz e.symm
      rw [e1] at hy
      rw [e2 z h2] at hz
      rcases ho with ho | ho
      · rw [ho] at hy
        exact h.far y z hyz g hy hz
      · rw [ho] at hy
        have := hlt z g hz
        have := Option.some.inj hy
        omega
    · rw [e2 y h1] at hy
      by_cases h2 : z = x
      · subst h2
        rw [e1] at hz
        rcases ho with ho | ho
        · rw [ho] at hz
          exact h.far y z hyz g hy hz
        · rw [ho] at hz
          have := hlt y g hy
          have := Option.some.inj hz
          omega
      · rw [e2 z h2] at hz
        exact h.far y z hyz g hy hz
theorem SupM.map1 {B mb : Nat} {F : Int → List Int} {G : Int → Option Value} {w w1 : World} {x : Int} (h : SupM B mb F G w) (hg : w.grownBy w1 (rowV G x).ownBlock) : MapIs (Value.int .i64) w1 mb G :=
  h.map.same (hg.block mb h.map.lt fun e => by
    obtain ⟨es, clock, em, -⟩ := h.map
    rcases (h.row x).2 with ⟨e2, _⟩ | ⟨g, off, cap, cur, e2, _, hgg, _⟩
    · rw [e2] at e; cases e
    · rw [e2] at e
      have : mb = g := by simpa [Value.ownBlock] using e
      subst this
      rw [em] at hgg
      cases hgg)
theorem SupM.blk1 {B mb : Nat} {F : Int → List Int} {G : Int → Option Value} {w w1 w2 : World} {x : Int} {b : Nat} {c : List Value} {T : TypeId} (h : SupM B mb F G w) (hg : w.grownBy w1 (rowV G x).ownBlock) (hg2 : w1.grownBy w2 (some mb)) (hb : Blk w b c T) (hT : T ≠ 3) : Blk w2 b c T := by
  have h1 : Blk w1 b c T := hb.same (hg.block b hb.lt fun e => (h.row x).far hb hT e.symm)
  refine h1.same (hg2.block b h1.lt fun e => ?_)
  obtain ⟨es, clock, em, -⟩ := h.map1 hg
  have : b = mb := by simpa using e
  subst this
  unfold Blk at h1
  rw [em] at h1
  cases h1
theorem OwnI.qrow {base : Nat} {w : World} {v : Value} {l : List Int} (h : OwnI base w v l) : QRow base w v l := by
  refine ⟨h.2, ?_⟩
  rcases h.1.1.2 with ⟨e, e0⟩ | ⟨g, cap, cur, e, hb, hg, hn, hm, hs, hx⟩
  · exact .inl ⟨e, List.eq_nil_of_length_eq_zero e0⟩
  · refine .inr ⟨g, 0, cap, cur, e, hb, hg, hn, hm, by omega, fun i hi => ?_⟩
    have h4 : (cur.toList.take (l.length * 1))[i]? = some (.int .i64 (ix l i)) := by rw [hx]; simp [hi]
    rw [List.getElem?_take_of_lt (by omega)] at h4
    simpa using h4
end Go.Proofs.YtgakoainjgjimaaGreatDoor
namespace Go.Proofs.YtgakoainjgjimaaGreatDoor
def negL (l : List Int) : List Int := l.map fun x => -x
def restI (r : GR) : Int := 1 - r.bound + sumTo r.w r.w.length
def compH (r : GR) (b : Int) : List PBC :=
  if r.sum then [(normP (r.body ++ [-b]) (r.w ++ [r.bound]) r.bound).1, (normP (negL r.body ++ [b]) (r.w ++ [max (restI r) 0]) (restI r)).1]
  else (r.body.map fun l => (clauseP [-b, l]).1) ++ [(clauseP (negL r.body ++ [b])).1]
def compR (r : GR) (b : Int) : List PBC := compH r b ++ (if r.choice then [] else [(clauseP (r.head ++ [-b])).1])
def supAt' (p : GP) (a : Int) : Nat → List Int
  | 0 => []
  | k + 1 => supAt' p a k ++ (if a ∈ (ixR p.rules k).head then [p.n + 1 + k] else [])
def atomC (p : GP) (a : Int) : PBC := (clauseP (supAt' p a p.rules.length ++ [-a])).1
def compTo (p : GP) : Nat → List PBC
  | 0 => []
  | k + 1 => compTo p k ++ compR (ixR p.rules k) (p.n + 1 + k)
def atomTo (p : GP) : Nat → List PBC
  | 0 => []
  | k + 1 => atomTo p k ++ [atomC p ((k : Int) + 1)]
def compL (p : GP) : List PBC := compTo p p.rules.length ++ atomTo p p.n.toNat
end Go.Proofs.YtgakoainjgjimaaGreatDoor
namespace Go.Proofs.YtgakoainjgjimaaGreatDoor
def reas2 (u : SU) (a : List Int) : List Int :=
  match (oth u).find? (fun h => offB a (-h)) with
  | some h => [-h]
  | none => u.r.body.filter (fun l => !(intB u.S l || !offB a l))
def reas1 (u : SU) (a : List Int) : List Int :=
  if u.r.sum then reas2 u a
  else match u.r.body.find? (fun l => offB a l) with
    | some l => [l]
    | none => reas2 u a
def reasP (u : SU) (a : List Int) : List Int :=
  if impB u then [] else if offB a u.b then [u.b] else reas1 u a
def reasAll (a : List Int) (l : List SU) : List Int := l.flatMap (fun u => reasP u a)
theorem reasAll_snoc (a : List Int) (l : List SU) (u : SU) : reasAll a (l ++ [u]) = reasAll a l ++ reasP u a := by simp [reasAll]
end Go.Proofs.YtgakoainjgjimaaGreatDoor
namespace Go.Proofs.YtgakoainjgjimaaGreatDoor
open Go.RowKit
attribute [local go_sem] Oper.semAt_some
def SUok2 (u : SU) : Prop := SUok u ∧ u.r.body.length ≤ 8002
abbrev SupW (w : World) := { x : Value × SU // SupIs w x.1 x.2 ∧ SUok2 x.2 }
theorem SupW.form {w : World} (x : SupW w) : ∃ vh vb vw vs, x.1.1 = .agg #[.bool x.1.2.r.choice, vh, .bool x.1.2.r.sum, .int .i64 x.1.2.r.bound, vb, vw, .int .i64 x.1.2.b, vs] ∧ (∃ a n c, vh = .slice a n c) ∧ (∃ a n c, vb = .slice a n c) ∧ (∃ a n c, vw = .slice a n c) ∧ ∃ a n c, vs = .slice a n c := by
  obtain ⟨vh, vb, vw, vs, e, h1, h2, h3⟩ := x.2.1
  obtain ⟨⟨_, _, e1, -⟩, -⟩ := h1.head
  obtain ⟨⟨_, _, e2, -⟩, -⟩ := h1.body
  obtain ⟨⟨_, _, e3, -⟩, -⟩ := h1.wts
  obtain ⟨⟨_, _, e4, -⟩, -⟩ := h2
  exact ⟨_, _, _, _, e, ⟨_, _, _, e1⟩, ⟨_, _, _, e2⟩, ⟨_, _, _, e3⟩, ⟨_, _, _, e4⟩⟩
end Go.Proofs.YtgakoainjgjimaaGreatDoor
namespace Go.Proofs.YtgakoainjgjimaaGreatDoor
open Go.RowKit
theorem reasP_len (u : SU) (a : List Int) : (reasP u a).length ≤ u.r.body.length + 1 := by
  unfold reasP
  split
  · simp
  · split
    · simp
    · have h2 : (reas2 u a).length ≤ u.r.body.length + 1 := by
        unfold reas2
        split
        · simp
        · have := List.length_filter_le (fun l => !(intB u.S l || !offB a l)) u.r.body
          omega
      unfold reas1
      split
      · exact h2
      · split
        · simp
        · exact h2
def MkI (a : List Int) (x0 : Int) (w1 : World) (n6 : Nat) (sl : List SU) (W : World) : Prop :=
  ∃ v, Blk W (w1.heap.size + 1) [v] 23 ∧ QRow w1.heap.size W v ([x0] ++ reasAll a sl) ∧ Below w1.heap.size w1 W ∧ ([x0] ++ reasAll a sl).length ≤ 1 + 8003 * sl.length ∧ (∀ g, v.ownBlock = some g → g = w1.heap.size ∨ n6 ≤ g) ∧ n6 ≤ W.heap.size
theorem MkI.on {n6 : Nat} {a : List Int} {x0 : Int} {w1 W W' : World} {sl : List SU} (h : MkI a x0 w1 n6 sl W) (hb : Below W.heap.size W W') : MkI a x0 w1 n6 sl W' :=
  let ⟨v, h1, h2, h3, h4, h5, h6⟩ := h; ⟨v, h1.below hb, h2.below hb, h3.trans (hb.mono h3.size), h4, h5, Nat.le_trans h6 hb.size⟩
theorem MkI.start {a : List Int} {x0 : Int} {w1 W6 : World} (hx : InI x0) (hb6 : Below (w1.heap.size + 1 + 1) ((w1.alloc (.cells #[.int .i64 x0] 3)).alloc (.cells #[.slice (some ⟨w1.heap.size, 0, none⟩) 1 1] 23)) W6) : MkI a x0 w1 W6.heap.size [] W6 := by
  have hb := (Blk.new w1 [.int .i64 x0] 3).alloc (.cells #[.slice (some ⟨w1.heap.size, 0, none⟩) 1 1] 23)
  have hz : ((w1.alloc (.cells #[.int .i64 x0] 3)).alloc (.cells #[.slice (some ⟨w1.heap.size, 0, none⟩) 1 1] 23)).heap.size = w1.heap.size + 1 + 1 := by simp
  rw [← hz] at hb6
  refine ⟨_, (Blk.new2 w1 _ [_] _).below hb6, QRow.below ⟨fitI fun x h => by obtain rfl := List.mem_singleton.1 (by simpa [reasAll] using h); exact hx, .inr ⟨w1.heap.size, 0, 1, _, by simp [reasAll], Nat.le_refl _, hb, by simp [reasAll], by unfold maxLen; omega, by simp, fun i hi => ?_⟩⟩ hb6, (bal (bal (Below.refl _ _) _) _).trans (hb6.mono (by omega)), by simp [reasAll], fun g e => .inl ?_, Nat.le_refl _⟩
  · simp [reasAll] at hi
    subst hi
    rfl
  · simpa [Value.ownBlock] using e.symm
theorem keeps_row {B base : Nat} {W W' : World} {v : Value} {l : List Int} (hq : QRow base W v l) (hg : W.grownBy W' v.ownBlock) : KeepsFrom B W W' :=
  ⟨hg.size, fun k o _ hk hc => (hg.block k (Array.getElem?_eq_some_iff.1 hk).1 (fun e => by
    rcases hq.2 with ⟨rfl, _⟩ | ⟨g, off, cap, cur, rfl, _, hgg, _⟩
    · cases e
    · obtain rfl : k = g := Option.some.inj e
      rw [hgg] at hk
      cases hk
      cases hc)).trans hk⟩
theorem MkI.push {a : List Int} {x0 : Int} {w1 W2 W3 : World} {n6 : Nat} {sl : List SU} {u : SU} {v v' : Value} (hb : Blk W2 (w1.heap.size + 1) [v] 23) (hq : QRow w1.heap.size W2 v ([x0] ++ reasAll a sl)) (hB : Below w1.heap.size w1 W2) (hlen : ([x0] ++ reasAll a sl).length ≤ 1 + 8003 * sl.length) (hown : ∀ g, v.ownBlock = some g → g = w1.heap.size ∨ n6 ≤ g) (hn : n6 ≤ W2.heap.size)
    (hu : u.r.body.length ≤ 8002) (hq3 : QRow w1.heap.size W3 v' (([x0] ++ reasAll a sl) ++ reasP u a)) (hg : W2.grownBy W3 v.ownBlock) (ho : v'.ownBlock = v.ownBlock ∨ v'.ownBlock = some W2.heap.size) :
    Blk W3 (w1.heap.size + 1) [v] 23 ∧ MkI a x0 w1 n6 (sl ++ [u]) (W3.setCell ⟨w1.heap.size + 1, 0, none⟩ v') ∧ Lim n6 [w1.heap.size, w1.heap.size + 1] W2 (W3.setCell ⟨w1.heap.size + 1, 0, none⟩ v') ∧ KeepsFrom n6 W2 (W3.setCell ⟨w1.heap.size + 1, 0, none⟩ v') := by
  have hb3 : Blk W3 (w1.heap.size + 1) [v] 23 := hb.same (hg.block _ hb.lt (fun e => (hq.far hb (by decide)) e.symm))
  refine ⟨hb3, ⟨v', by simpa using hb3.set 0 v', ?_, (hB.grown hg hB.size (fun k e => (hq.base e).1)).setCell (p := ⟨w1.heap.size + 1, 0, none⟩) (by show w1.heap.size ≤ w1.heap.size + 1; omega) _, ?_, fun g e => ?_, by rw [size_set]; exact Nat.le_trans hn hg.size⟩, ?_, (keeps_row hq hg).trans ((KeepsOthers.setCell _ _ _).from _)⟩
  · rw [reasAll_snoc, ← List.append_assoc]
    have hne : v'.ownBlock ≠ some (w1.heap.size + 1) := hq3.far hb3 (by decide)
    exact hq3.kept fun i _ _ e => Below.heap_setCell _ _ _ _ (fun e2 => hne (by rw [e, e2]))
  · rw [reasAll_snoc]
    have := reasP_len u a
    simp only [List.length_append, List.length_cons, List.length_nil] at *
    omega
  · rcases ho with h | h
    · exact hown g (h ▸ e)
    · rw [h] at e
      have := Option.some.inj e
      exact .inr (by omega)
  · refine Lim.trans ⟨hg.os, hg.tape, hg.output, hg.size, fun k hk hs => hg.block k (by omega) (fun e => ?_)⟩ (Lim.setCell _ (.inl (by simp)))
    simp only [List.mem_cons, List.not_mem_nil, or_false, not_or] at hs
    have := hown k e.symm
    omega
structure AlSt (w : World) (cp : List Value) (rb : Nat) (cr : List Value) (r : GR) (vh vb vw vS vD : Value) (S D : List Int) (W : World) : Prop where
  pbx : Blk W w.heap.size cp 27
  rbx : Blk W rb cr 64
  sl : RuleSl W r vh vb vw
  set : Ints W vS S
  dd : Ints W vD D
  below : Below w.heap.size w W
theorem AlSt.on {w : World} {cp : List Value} {rb : Nat} {cr : List Value} {r : GR} {vh vb vw vS vD : Value} {S D : List Int} {W W' : World} (h : AlSt w cp rb cr r vh vb vw vS vD S D W) (hb : Below W.heap.size W W') : AlSt w cp rb cr r vh vb vw vS vD S D W' :=
  ⟨h.pbx.below hb, h.rbx.below hb, h.sl.below hb, h.set.below hb, h.dd.below hb, bon h.below hb⟩
theorem AlSt.rule {w : World} {cp : List Value} {rb : Nat} {cr : List Value} {r : GR} {vh vb vw vS vD : Value} {S D : List Int} {W : World} (h : AlSt w cp rb cr r vh vb vw vS vD S D W) : RuleIs W (.agg #[.bool r.choice, vh, .bool r.sum, .int .i64 r.bound, vb, vw]) r := ⟨_, _, _, rfl, h.sl⟩
structure ValX (p : GP) (m : List Int) (x : XP) : Prop where
  nod : (atomsY x.whys).Nodup
  part : ∀ a, a ∈ m ↔ a ∈ x.rest ∨ a ∈ atomsY x.whys
  lev : ∀ y ∈ x.whys, 1 ≤ y.level
  der : ∀ y ∈ x.whys, ∃ i : Nat, y.rule = i ∧ i < p.rules.length ∧ derT (lowY x.whys y.level) m (ixR p.rules i) y.atom = true
theorem chk_val {p : GP} {m : List Int} {x : XP} (hv : validE p = 0) (hm : setQ p.n m = true) (h : chkX p m x = true) : ValX p m x := by
  have hn := (validP hv).n
  have hms := setQ_sorted hm
  have hmn : m.Nodup := hms.imp fun h => Int.ne_of_lt h
  have hmr : ∀ x ∈ m, 1 ≤ x ∧ x ≤ (p.n.toNat : Int) := fun x hx => by have := setQ_rng hm hx; omega
  unfold chkX at h
  simp only [Bool.and_eq_true, decide_eq_true_eq] at h
  obtain ⟨h1, h2, h3, h4, h5⟩ := h
  have hnd : (x.rest ++ atomsY x.whys).Nodup := h2.nodup_iff.2 hmn
  rw [List.nodup_append] at hnd
  obtain ⟨n1, n2, n3⟩ := hnd
  have hs2 : ∀ y ∈ x.whys, y.atom ∈ m := fun y hy => h2.subset (List.mem_append.2 (.inr (List.mem_map.2 ⟨y, hy, rfl⟩)))
  have hr : ∀ i, i < x.whys.length → _ := fun i hi => by
    have := allR_get h1 i hi
    unfold rngY at this
    simp only [Bool.and_eq_true, decide_eq_true_eq] at this
    exact this
  have hlv : ∀ y ∈ x.whys, 1 ≤ y.level := fun y hy => by
    obtain ⟨i, hi, rfl⟩ := mem_ixY hy
    exact (hr i hi).2.2.2.2
  refine ⟨n2, fun a => by rw [← h2.mem_iff, List.mem_append], hlv, fun y hy => ?_⟩
  obtain ⟨i, hi, rfl⟩ := mem_ixY hy
  have r := hr i hi
  have r5 := allR_get h5 i hi
  rw [derT_congr (lvT_low hmr n2 hs2 hlv)] at r5
  exact ⟨(ixY x.whys i).rule.toNat, by omega, by omega, r5⟩
end Go.Proofs.YtgakoainjgjimaaGreatDoor
