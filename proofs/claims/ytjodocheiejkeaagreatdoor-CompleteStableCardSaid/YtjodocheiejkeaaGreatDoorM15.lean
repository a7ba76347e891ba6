/- My texts SrcSt, Entry, Try2, Plain2, Gain, Find, New2, Plain3, MoreP, merged. -/
import Derived.Test.YtjodocheiejkeaaGreatDoorM04
import Derived.Test.YtjodocheiejkeaaGreatDoorM03
import Derived.Test.YtjodocheiejkeaaGreatDoorM00
import Derived.Test.YtjodocheiejkeaaGreatDoorProg
import Derived.WalkKit
import Derived.Lib.Hide
import Derived.Deep.QuietTactic
import Derived.BigQuiet
import Derived.Lib.Bytealg
import Derived.MapKept
import Derived.Maps.OwnSet
import Derived.Maps.OwnOps
import Derived.WalkSpells
import Derived.Lib.SliceRun
import Derived.Test.YtjodocheiejkeaaGreatDoorM02
import Derived.Test.YtjodocheiejkeaaGreatDoorM01
import Derived.Deep.AppendLies
import Derived.Deep.DeepCutAuto
import Derived.Deep.LoopGhost
import Derived.Deep.RegionWith
import Derived.Deep.DrawnRows
import Derived.Test.YtjodocheiejkeaaGreatDoorM14
import Derived.Test.YtjodocheiejkeaaGreatDoorM13
import Derived.Test.YtjodocheiejkeaaGreatDoorM05
import Derived.Deep.OwnRows

namespace Go.Proofs.YtjodocheiejkeaaGreatDoor
open Go.RowKit
structure SP where
  H : Nat
  T : Nat
  b : Nat
  bh : Nat
  bu : Nat
  bf : Nat
  bk : Nat
  vn : Value
  vr : Value
  gh : Int → Option Value
  gu : Int → Option Value
  Rh : Int → List Int
  Ru : Int → List Int
  qh : Nat → Value
  qb : Nat → Value
  qw : Nat → Value
structure FixC (s : SP) (p : GP) (w : World) : Prop where
  names : Strs w s.vn p.names
  rulesA : RulesAt w s.vr p.rules s.qh s.qb s.qw
  heads : MapIs (Value.int .i64) w s.bh s.gh
  uses : MapIs (Value.int .i64) w s.bu s.gu
  headRow : ∀ x, Ints w ((s.gh x).getD nilS) (s.Rh x)
  useRow : ∀ x, Ints w ((s.gu x).getD nilS) (s.Ru x)
theorem FixC.rules {s : SP} {p : GP} {w : World} (h : FixC s p w) : RulesIs w s.vr p.rules := ⟨_, _, _, h.rulesA⟩
theorem FixC.cells {s : SP} {p : GP} {w : World} (h : FixC s p w) : ∃ a cap, s.vr = .slice a p.rules.length cap ∧ (0 < p.rules.length → ∃ b off, a = some ⟨b, off, none⟩ ∧ b < w.heap.size ∧ ∀ i, i < p.rules.length → RuleCells w b (off + i * 6) (ixR p.rules i) (s.qh i) (s.qb i) (s.qw i)) := by
  obtain ⟨a, cap, e, h1, hm, h2, h3⟩ := h.rulesA.1
  refine ⟨a, cap, e, fun hp => ?_⟩
  obtain ⟨b, off, e, hl, hc⟩ := h3 hp
  exact ⟨b, off, e, hl, fun i hi => ⟨hc i hi 0 (by omega), hc i hi 1 (by omega), hc i hi 2 (by omega), hc i hi 3 (by omega), hc i hi 4 (by omega), hc i hi 5 (by omega)⟩⟩
section
variable {m : Nat} {s : SP} {p : GP} {F K : Int → Int} {clock : Int} {a : List Int} {w w' : World}
end
end Go.Proofs.YtjodocheiejkeaaGreatDoor
namespace Go.Proofs.YtjodocheiejkeaaGreatDoor
open Go.RowKit Go.MapKept
section
variable {κ : Type} {kv : κ → Value} {d : TypeDesc} {P : Program} {w : World} {b : Nat} {g : κ → Option Value} {t kt et : TypeId}
def MapE (kv : κ → Value) (w : World) (b : Nat) (g : κ → Option Value) (k : κ) (c : Nat) : Prop :=
  ∃ es clock, w.heap[b]? = some (.map es clock) ∧ Stamped es clock ∧ (∀ x ∈ es.toList, ∃ k, x.key = kv k) ∧ (∀ k' v, k' ≠ k → (g k' = some v ↔ ∃ x ∈ es.toList, x.key = kv k' ∧ x.val = v)) ∧
    ∃ (j : Nat) (e : MapEntry), es[j]? = some e ∧ e.key = kv k ∧ e.born = c
theorem MapIs.entry [DecidableEq κ] (h : MapIs kv w b g) (V : KV kv d) (ht : P.underlying t = some (.map kt et)) (hd : P.underlying kt = some d) {z : Value} (hz : (zeroValue et).run P w = .ok z w) (k : κ) :
    ∃ (w' : World) (v0 : Value) (c : Nat), (Instr.mapEntry t (.map (some b)) (kv k)).run P w = .ok (.tuple #[v0, goInt (c : Int)]) w' ∧ MapE kv w' b g k c ∧ w.grownBy w' (some b) ∧ w'.heap.size = w.heap.size := by
  obtain ⟨es, clock, hb, hs, hks, hg⟩ := h
  have hks' : ∀ x ∈ es.toList, IsKey d x.key := fun x hx => let ⟨k, e⟩ := hks x hx; e ▸ V.key k
  rcases findNow_spec (V.key k) es.toList 0 hks' with ⟨h1, h2⟩ | ⟨j, e, h1, h2, h3⟩
  · refine ⟨{ w with heap := w.heap.setIfInBounds b (.map (es.push { key := kv k, val := z, born := clock }) (clock + 1)) }, z, clock, ?_, ⟨_, _, (heap_set hb).1, stamped_push hs h2, ?_, ?_, es.size, { key := kv k, val := z, born := clock }, by simp, rfl, rfl⟩, grownBy_set b _ hb, by simp⟩
    · simp [Instr.mapEntry, run_underlying ht, Go.MapKept.run_getObj_map hb, run_checkKey hd (V.key k), run_findKey hd h1, hz, Go.MapKept.run_setObj_map _ hb, Result.andThen]
    · intro x hx
      simp only [Array.toList_push, List.mem_append, List.mem_singleton] at hx
      rcases hx with hx | rfl
      · exact hks x hx
      · exact ⟨k, rfl⟩
    · intro k' v' hk
      simp only [Array.toList_push, List.mem_append, List.mem_singleton]
      rw [hg]
      constructor
      · rintro ⟨x, hx, h4⟩; exact ⟨x, .inl hx, h4⟩
      · rintro ⟨x, hx | rfl, h4, h5⟩
        · exact ⟨x, hx, h4, h5⟩
        · exact absurd (V.inj _ _ h4).symm hk
  · have hj : es[j]? = some e := by simpa using h2
    have hjl : j < es.size := (Array.getElem?_eq_some_iff.1 hj).1
    have hej : es[j] = e := by rw [Array.getElem?_eq_getElem hjl] at hj; exact Option.some.inj hj
    have hkey : ∀ e', es[j]? = some e' → ({ e' with key := kv k } : MapEntry).key = e'.key := fun e' he' => by rw [hj] at he'; cases he'; exact h3.symm
    have hsame : es.modify j (fun e => { e with key := kv k }) = es := by
      apply Array.ext (by simp)
      intro i h4 h5
      rw [Array.getElem_modify]
      split
      · rename_i hji; subst hji; rw [hej, ← h3]
      · rfl
    refine ⟨{ w with heap := w.heap.setIfInBounds b (.map es clock) }, e.val, e.born, ?_, ⟨_, _, (heap_set hb).1, hs, hks, fun k' v' _ => hg k' v', j, e, hj, h3, rfl⟩, grownBy_set b _ hb, by simp⟩
    simp [Instr.mapEntry, run_underlying ht, Go.MapKept.run_getObj_map hb, run_checkKey hd (V.key k), run_findKey hd h1, hj, h3, run_keyThatStays (V.key k), Go.MapKept.run_setObj_map _ hb, Result.andThen, hsame]
theorem MapE.store [DecidableEq κ] {k : κ} {c : Nat} (h : MapE kv w b g k c) (V : KV kv d) (v : Value) :
    ∃ w', (Instr.entryStore t (.map (some b)) (goInt (c : Int)) v).run P w = .ok () w' ∧ MapIs kv w' b (upd g k (some v)) ∧ w.grownBy w' (some b) ∧ w'.heap.size = w.heap.size := by
  obtain ⟨es, clock, hb, hs, hks, hg, j, e, hj, h3, h4⟩ := h
  have hjl : j < es.size := (Array.getElem?_eq_some_iff.1 hj).1
  have hej : es[j] = e := by rw [Array.getElem?_eq_getElem hjl] at hj; exact Option.some.inj hj
  have hborn : ∀ (p q : Nat) (hp : p < es.size) (hq : q < es.size), p < q → es[p].born ≠ es[q].born := fun p q hp hq hpq => by
    have := List.pairwise_iff_getElem.1 hs.2.1 p q (by simpa using hp) (by simpa using hq) hpq
    simpa using this
  have hkeys : ∀ (p q : Nat) (hp : p < es.size) (hq : q < es.size), p < q → es[p].key ≠ es[q].key := fun p q hp hq hpq => by
    have := List.pairwise_iff_getElem.1 hs.2.2 p q (by simpa using hp) (by simpa using hq) hpq
    simpa using this
  have hf : es.findIdx? (fun e => (e.born : Int) == (c : Int)) = some j := by
    rw [Array.findIdx?_eq_some_iff_getElem]
    refine ⟨hjl, by rw [hej, h4]; simp, fun i hi => ?_⟩
    have := hborn i j (by omega) hjl hi
    rw [hej, h4] at this
    simp; omega
  have huniq : ∀ i (hi : i < es.size), es[i].key = kv k → i = j := fun i hi he => by
    rcases Nat.lt_trichotomy i j with h5 | h5 | h5
    · exact absurd (he.trans (h3.symm.trans (by rw [hej]))) (hkeys i j hi hjl h5)
    · exact h5
    · exact absurd ((show es[j].key = kv k by rw [hej, h3]).trans he.symm) (hkeys j i hjl hi h5)
  refine ⟨{ w with heap := w.heap.setIfInBounds b (.map (es.modify j fun e => { e with val := v }) clock) }, ?_, ⟨_, _, (heap_set hb).1, stamped_modify hs _ _ (fun _ _ => rfl) (fun _ _ _ => rfl), ?_, ?_⟩, grownBy_set b _ hb, by simp⟩
  · simp [Instr.entryStore, Go.MapKept.run_getObj_map hb, goInt, asInt, asIntOf, hf, Go.MapKept.run_setObj_map _ hb, Result.andThen]
  · intro x hx
    obtain ⟨i, hi, rfl⟩ := List.mem_iff_getElem.1 hx
    simp only [Array.length_toList, Array.size_modify] at hi
    simp only [Array.getElem_toList, Array.getElem_modify]
    split
    · exact hks es[i] (by simp)
    · exact hks _ (by simp)
  · intro k' v'
    simp only [upd]
    by_cases hk : k' = k
    · subst hk
      rw [if_pos rfl]
      constructor
      · intro e'; cases e'
        refine ⟨(es.modify j fun e => { e with val := v })[j]'(by simpa using hjl), Array.getElem_mem_toList _, ?_, ?_⟩ <;> rw [Array.getElem_modify, if_pos rfl]
        rw [hej, h3]
      · rintro ⟨x, hx, h5, h6⟩
        obtain ⟨i, hi, rfl⟩ := List.mem_iff_getElem.1 hx
        simp only [Array.length_toList, Array.size_modify] at hi
        simp only [Array.getElem_toList, Array.getElem_modify] at h5 h6
        by_cases hij : j = i
        · rw [if_pos hij] at h6; rw [← h6]
        · rw [if_neg hij] at h5
          exact absurd (huniq i hi h5).symm hij
    · rw [if_neg hk, hg k' v' hk]
      constructor
      · rintro ⟨x, hx, h5, h6⟩
        obtain ⟨i, hi, rfl⟩ := List.mem_iff_getElem.1 hx
        simp only [Array.length_toList] at hi
        simp only [Array.getElem_toList] at h5 h6
        have hij : j ≠ i := fun e' => by subst e'; rw [hej, h3] at h5; exact hk (V.inj _ _ h5).symm
        refine ⟨(es.modify j fun e => { e with val := v })[i]'(by simpa using hi), Array.getElem_mem_toList _, ?_, ?_⟩ <;> simp only [Array.getElem_modify, if_neg hij] <;> assumption
      · rintro ⟨x, hx, h5, h6⟩
        obtain ⟨i, hi, rfl⟩ := List.mem_iff_getElem.1 hx
        simp only [Array.length_toList, Array.size_modify] at hi
        simp only [Array.getElem_toList, Array.getElem_modify] at h5 h6
        by_cases hij : j = i
        · rw [if_pos hij] at h5
          subst hij
          rw [hej, h3] at h5
          exact absurd (V.inj _ _ h5).symm hk
        · rw [if_neg hij] at h5 h6
          exact ⟨es[i], by simp, h5, h6⟩
end
end Go.Proofs.YtjodocheiejkeaaGreatDoor
namespace Go.Proofs.YtjodocheiejkeaaGreatDoor
open Go.RowKit
section
variable {base c1 q : Nat} {s : SP} {p : GP} {F K : Int → Int} {clock : Int} {a l : List Int} {w : World}
structure KeepS (s : SP) (W : World) where
  world : World
  size : W.heap.size ≤ world.heap.size
  block : ∀ i, i < W.heap.size → i ≠ s.bf → i ≠ s.bk → world.heap[i]? = W.heap[i]?
instance instKeepS (s : SP) (W : World) : Nonempty (KeepS s W) := ⟨⟨W, Nat.le_refl _, fun _ _ _ _ => rfl⟩⟩
theorem KeepS.cell {W : World} (e : KeepS s W) (b o : Nat) (hb : b < W.heap.size) (h1 : b ≠ s.bf) (h2 : b ≠ s.bk) : e.world.cell? ⟨b, o, none⟩ = W.cell? ⟨b, o, none⟩ := World.cell?_of_block (e.block b hb h1 h2)
end
def InHead (p : GP) (i x : Int) : Prop := 0 ≤ i ∧ i < p.rules.length ∧ x ∈ (ixR p.rules i.toNat).head
def InBody (p : GP) (i x : Int) : Prop := 0 ≤ i ∧ i < p.rules.length ∧ x ∈ (ixR p.rules i.toNat).body
def avB (p : GP) (a : List Int) (F K : Int → Int) (i before : Int) : Bool := availB p a F K i.toNat before
def SInv (p : GP) (F K : Int → Int) (clock : Int) : Prop :=
  ∀ x, F x = 0 ∨ (0 < F x ∧ 1 ≤ x ∧ x ≤ p.n ∧ InHead p (F x - 1) x ∧ 1 ≤ K x ∧ K x ≤ clock)
theorem cntF_le (F : Int → Int) : ∀ n, cntF F n ≤ n
  | 0 => Nat.le_refl _
  | n + 1 => by have := cntF_le F n; unfold cntF; split <;> omega
theorem setI_eq (F : Int → Int) (x v : Int) : setI F x v x = v := by simp [setI]
theorem setI_ne (F : Int → Int) {x y : Int} (v : Int) (h : y ≠ x) : setI F x v y = F y := by simp [setI, h]
theorem cntF_set_out (F : Int → Int) (x v : Int) : ∀ n : Nat, (n : Int) < x → cntF (setI F x v) n = cntF F n
  | 0, _ => rfl
  | n + 1, h => by
    unfold cntF
    rw [cntF_set_out F x v n (by omega), setI_ne F v (by omega)]
theorem cntF_up (F : Int → Int) (x v : Int) (h0 : ¬ 0 < F x) (hv : 0 < v) : ∀ n : Nat, 1 ≤ x → x ≤ n → cntF (setI F x v) n = cntF F n + 1
  | 0, h1, h2 => by omega
  | n + 1, h1, h2 => by
    unfold cntF
    by_cases e : x = (n : Int) + 1
    · subst e
      rw [cntF_set_out F _ v n (by omega), setI_eq, if_pos hv, if_neg h0]
    · rw [cntF_up F x v h0 hv n h1 (by omega), setI_ne F v (fun e' => e e'.symm)]
      omega
theorem cntF_down (F : Int → Int) (x : Int) (h0 : 0 < F x) : ∀ n : Nat, 1 ≤ x → x ≤ n → cntF (setI F x 0) n + 1 = cntF F n
  | 0, h1, h2 => by omega
  | n + 1, h1, h2 => by
    unfold cntF
    by_cases e : x = (n : Int) + 1
    · subst e
      rw [cntF_set_out F _ 0 n (by omega), setI_eq, if_neg (by omega), if_pos h0]
    · have := cntF_down F x h0 n h1 (by omega)
      rw [setI_ne F 0 (fun e' => e e'.symm)]
      omega
section avail
variable {p : GP} {a : List Int} {F K F' K' : Int → Int}
theorem avSum_congr {r : GR} {b b' : Int} (h : ∀ l ∈ r.body, holdsB a F K b l = holdsB a F' K' b' l) : ∀ k, k ≤ r.body.length → avSum r a F K b k = avSum r a F' K' b' k
  | 0, _ => rfl
  | k + 1, hk => by
    unfold avSum
    rw [avSum_congr h k (by omega), h (ix r.body k) (by
      have e : ix r.body k = r.body[k] := by simp [ix, List.getD_eq_getElem?_getD, List.getElem?_eq_getElem (show k < r.body.length by omega)]
      rw [e]; exact List.getElem_mem (by omega))]
theorem avB_congr {i b b' : Int} (h : ∀ l ∈ (ixR p.rules i.toNat).body, holdsB a F K b l = holdsB a F' K' b' l) : avB p a F K i b = avB p a F' K' i b' := by
  unfold avB availB
  rw [avSum_congr h _ (Nat.le_refl _)]
  congr 2
  have e : ∀ k, k < (ixR p.rules i.toNat).body.length → holdsB a F K b (ix (ixR p.rules i.toNat).body k) = holdsB a F' K' b' (ix (ixR p.rules i.toNat).body k) := fun k hk => h _ (by
    have e : ix (ixR p.rules i.toNat).body k = (ixR p.rules i.toNat).body[k] := by simp [ix, List.getD_eq_getElem?_getD, List.getElem?_eq_getElem hk]
    rw [e]; exact List.getElem_mem hk)
  unfold allR
  rw [Bool.eq_iff_iff]
  simp only [List.all_eq_true, List.mem_range]
  constructor
  · intro h1 k hk; rw [← e k hk]; exact h1 k hk
  · intro h1 k hk; rw [e k hk]; exact h1 k hk
theorem avB_away {i b x u v : Int} (h : x ∉ (ixR p.rules i.toNat).body) : avB p a (setI F x u) (setI K x v) i b = avB p a F K i b :=
  avB_congr fun l hl => by
    have : l ≠ x := fun e => h (e ▸ hl)
    unfold holdsB
    rw [setI_ne F u this, setI_ne K v this]
theorem avB_new {i b x u c : Int} (h0 : ¬ 0 < F x) (hb : b ≤ c) : avB p a (setI F x u) (setI K x c) i b = avB p a F K i b :=
  avB_congr fun l hl => by
    unfold holdsB
    by_cases e : l = x
    · subst e
      rw [setI_eq, setI_eq]
      have h1 : decide (c < b) = false := decide_eq_false (by omega)
      have h2 : decide (0 < F l) = false := decide_eq_false h0
      rw [h1, h2]; simp
    · rw [setI_ne F u e, setI_ne K c e]
theorem avB_time {i b b' clock : Int} (h : SInv p F K clock) (hb : clock < b) (hb' : clock < b') : avB p a F K i b = avB p a F K i b' :=
  avB_congr fun l hl => by
    unfold holdsB
    rcases h l with h1 | h1
    · rw [h1]; simp
    · have h2 : decide (K l < b) = true := decide_eq_true (by omega)
      have h3 : decide (K l < b') = true := decide_eq_true (by omega)
      rw [h2, h3]
end avail
structure LI (p : GP) (a : List Int) (F K : Int → Int) (clock : Int) (l : List Int) (X : Int) (R : Int → Int → Prop) : Prop where
  inv : SInv p F K clock
  off : ∀ z, 0 < F z → z < X → offB a z = false
  ok : ∀ z, 0 < F z → avB p a F K (F z - 1) (K z) = true ∨ (∃ y ∈ l, InBody p (F z - 1) y) ∨ R z (F z - 1)
  q : ∀ y ∈ l, 1 ≤ y ∧ y ≤ p.n
  cnt : (cntF F p.n.toNat + l.length : Int) ≤ p.n
section lose
variable {p : GP} {a l : List Int} {F K : Int → Int} {clock X X' : Int} {R R' : Int → Int → Prop}
theorem LI.start (h : SInv p F K clock) (hn : 0 ≤ p.n) : LI p a F K clock [] 1 (fun z _ => 1 ≤ z) := by
  refine ⟨h, fun z hz hx => ?_, fun z hz => .inr (.inr ?_), fun y hy => by simp at hy, ?_⟩
  · rcases h z with h1 | h1 <;> omega
  · rcases h z with h1 | h1 <;> omega
  · have := cntF_le F p.n.toNat; simp; omega
theorem LI.drop (h : LI p a F K clock l X R) (x : Int) (hx : 0 < F x) (hX : ∀ z, z < X' → z ≠ x → z < X) (hR : ∀ z i, z ≠ x → R z i → R' z i) : LI p a (setI F x 0) (setI K x 0) clock (l ++ [x]) X' R' := by
  have hi := h.inv x
  refine ⟨fun z => ?_, fun z hz hzx => ?_, fun z hz => ?_, fun y hy => ?_, ?_⟩
  · by_cases e : z = x
    · subst e; left; rw [setI_eq]
    · rw [setI_ne F 0 e, setI_ne K 0 e]; exact h.inv z
  · have e : z ≠ x := fun e => by subst e; rw [setI_eq] at hz; omega
    rw [setI_ne F 0 e] at hz
    exact h.off z hz (hX z hzx e)
  · have e : z ≠ x := fun e => by subst e; rw [setI_eq] at hz; omega
    rw [setI_ne F 0 e] at hz ⊢
    rw [setI_ne K 0 e]
    by_cases hb : x ∈ (ixR p.rules (F z - 1).toNat).body
    · right; left
      refine ⟨x, by simp, ?_⟩
      rcases h.inv z with h1 | h1
      · omega
      · have := h1.2.2.2.1; exact ⟨this.1, this.2.1, hb⟩
    · rw [avB_away hb]
      rcases h.ok z hz with h1 | ⟨y, h1, h2⟩ | h1
      · exact .inl h1
      · exact .inr (.inl ⟨y, by simp [h1], h2⟩)
      · exact .inr (.inr (hR z _ e h1))
  · simp only [List.mem_append, List.mem_singleton] at hy
    rcases hy with hy | rfl
    · exact h.q y hy
    · omega
  · have h2 := h.cnt
    have h3 := cntF_down F x hx p.n.toNat (by omega) (by omega)
    simp only [List.length_append, List.length_singleton]
    push_cast
    omega
theorem LI.keep (h : LI p a F K clock l X R) (hX : ∀ z, 0 < F z → z < X' → z < X ∨ offB a z = false) (hR : ∀ z, 0 < F z → R z (F z - 1) → avB p a F K (F z - 1) (K z) = true ∨ R' z (F z - 1)) : LI p a F K clock l X' R' := by
  refine ⟨h.inv, fun z hz hzx => ?_, fun z hz => ?_, h.q, h.cnt⟩
  · rcases hX z hz hzx with h1 | h1
    · exact h.off z hz h1
    · exact h1
  · rcases h.ok z hz with h1 | h1 | h1
    · exact .inl h1
    · exact .inr (.inl h1)
    · rcases hR z hz h1 with h2 | h2
      · exact .inl h2
      · exact .inr (.inr h2)
end lose
structure Lost (p : GP) (a : List Int) (F K : Int → Int) (clock : Int) : Prop where
  inv : SInv p F K clock
  off : ∀ z, 0 < F z → offB a z = false
  ok : ∀ z, 0 < F z → avB p a F K (F z - 1) (K z) = true
theorem LI.done {p : GP} {a : List Int} {F K : Int → Int} {clock X : Int} {R : Int → Int → Prop} (h : LI p a F K clock [] X R) (hX : p.n < X) (hR : ∀ z i, ¬ R z i) : Lost p a F K clock := by
  refine ⟨h.inv, fun z hz => h.off z hz ?_, fun z hz => ?_⟩
  · rcases h.inv z with h1 | h1 <;> omega
  · rcases h.ok z hz with h1 | ⟨y, h1, h2⟩ | h1
    · exact h1
    · simp at h1
    · exact absurd h1 (hR _ _)
structure GI (p : GP) (a : List Int) (F K : Int → Int) (clock C0 : Int) (l : List Int) (R : Int → Int → Prop) : Prop where
  lost : Lost p a F K clock
  cmp : ∀ z i, 1 ≤ z → z ≤ p.n → ¬ 0 < F z → offB a z = false → InHead p i z → avB p a F K i (clock + 1) = false ∨ (∃ y ∈ l, InBody p i y) ∨ R z i
  q : ∀ y ∈ l, 1 ≤ y ∧ y ≤ p.n
  cnt : l.length ≤ cntF F p.n.toNat
  clk : clock ≤ C0 + cntF F p.n.toNat
section gain
variable {p : GP} {a l : List Int} {F K : Int → Int} {clock C0 : Int} {R R' : Int → Int → Prop}
theorem GI.start (h : Lost p a F K clock) : GI p a F K clock clock [] (fun z _ => 1 ≤ z) :=
  ⟨h, fun z i h1 h2 h3 h4 h5 => .inr (.inr h1), fun y hy => by simp at hy, by simp, by omega⟩
theorem GI.push (h : GI p a F K clock C0 l R) (hc : 0 ≤ clock) (x i : Int) (h0 : ¬ 0 < F x) (hx : 1 ≤ x ∧ x ≤ p.n) (ho : offB a x = false) (hi : InHead p i x) (hav : avB p a F K i (clock + 1) = true) (hR : ∀ z j, z ≠ x → R z j → R' z j) :
    GI p a (setI F x (i + 1)) (setI K x (clock + 1)) (clock + 1) C0 (l ++ [x]) R' := by
  have hinv : SInv p (setI F x (i + 1)) (setI K x (clock + 1)) (clock + 1) := fun z => by
    by_cases e : z = x
    · subst e
      rw [setI_eq, setI_eq]
      have := hi.1
      exact .inr ⟨by omega, hx.1, hx.2, by rwa [show i + 1 - 1 = i by omega], by omega, by omega⟩
    · rw [setI_ne F _ e, setI_ne K _ e]
      rcases h.lost.inv z with h1 | h1
      · exact .inl h1
      · exact .inr ⟨h1.1, h1.2.1, h1.2.2.1, h1.2.2.2.1, h1.2.2.2.2.1, by omega⟩
  have hup := cntF_up F x (i + 1) h0 (by have := hi.1; omega) p.n.toNat hx.1 (by omega)
  refine ⟨⟨hinv, fun z hz => ?_, fun z hz => ?_⟩, fun z j h1 h2 h3 h4 h5 => ?_, fun y hy => ?_, ?_, ?_⟩
  · by_cases e : z = x
    · subst e; exact ho
    · rw [setI_ne F _ e] at hz; exact h.lost.off z hz
  · by_cases e : z = x
    · subst e
      rw [setI_eq, setI_eq, avB_new h0 (by omega), show i + 1 - 1 = i by omega]
      exact hav
    · rw [setI_ne F _ e] at hz ⊢
      rw [setI_ne K _ e]
      rcases h.lost.inv z with h1 | h1
      · omega
      · rw [avB_new h0 (by omega)]
        exact h.lost.ok z hz
  · have e : z ≠ x := fun e => by subst e; rw [setI_eq] at h3; have := hi.1; omega
    rw [setI_ne F _ e] at h3
    by_cases hb : x ∈ (ixR p.rules j.toNat).body
    · exact .inr (.inl ⟨x, by simp, h5.1, h5.2.1, hb⟩)
    · rw [avB_away hb, avB_time (b' := clock + 1) h.lost.inv (by omega) (by omega)]
      rcases h.cmp z j h1 h2 h3 h4 h5 with h6 | ⟨y, h6, h7⟩ | h6
      · exact .inl h6
      · exact .inr (.inl ⟨y, by simp [h6], h7⟩)
      · exact .inr (.inr (hR z j e h6))
  · simp only [List.mem_append, List.mem_singleton] at hy
    rcases hy with hy | rfl
    · exact h.q y hy
    · exact hx
  · have := h.cnt
    simp only [List.length_append, List.length_singleton]
    omega
  · have := h.clk
    rw [hup]; push_cast; omega
theorem GI.keep (h : GI p a F K clock C0 l R) (hR : ∀ z i, 1 ≤ z → z ≤ p.n → ¬ 0 < F z → offB a z = false → InHead p i z → R z i → avB p a F K i (clock + 1) = false ∨ R' z i) : GI p a F K clock C0 l R' := by
  refine ⟨h.lost, fun z i h1 h2 h3 h4 h5 => ?_, h.q, h.cnt, h.clk⟩
  rcases h.cmp z i h1 h2 h3 h4 h5 with h6 | h6 | h6
  · exact .inl h6
  · exact .inr (.inl h6)
  · rcases hR z i h1 h2 h3 h4 h5 h6 with h7 | h7
    · exact .inl h7
    · exact .inr (.inr h7)
end gain
structure Found (p : GP) (a : List Int) (F K : Int → Int) (clock : Int) : Prop where
  lost : Lost p a F K clock
  cmp : ∀ z i, 1 ≤ z → z ≤ p.n → ¬ 0 < F z → offB a z = false → InHead p i z → avB p a F K i (clock + 1) = false
theorem GI.done {p : GP} {a : List Int} {F K : Int → Int} {clock C0 : Int} {R : Int → Int → Prop} (h : GI p a F K clock C0 [] R) (hR : ∀ z i, ¬ R z i) : Found p a F K clock ∧ clock ≤ C0 + cntF F p.n.toNat := by
  refine ⟨⟨h.lost, fun z i h1 h2 h3 h4 h5 => ?_⟩, h.clk⟩
  rcases h.cmp z i h1 h2 h3 h4 h5 with h6 | ⟨y, h6, h7⟩ | h6
  · exact h6
  · simp at h6
  · exact absurd h6 (hR _ _)
def R3 (row : List Int) (k : Nat) (_ i : Int) : Prop := ∃ j, k ≤ j ∧ j < row.length ∧ i = ix row j
def R4 (row head : List Int) (k m : Nat) (z i : Int) : Prop := (i = ix row k ∧ ∃ j, m ≤ j ∧ j < head.length ∧ z = ix head j) ∨ ∃ j, k < j ∧ j < row.length ∧ i = ix row j
theorem ix_of_mem {l : List Int} {x : Int} (h : x ∈ l) : ∃ j, j < l.length ∧ x = ix l j := by
  obtain ⟨j, hj, e⟩ := List.mem_iff_getElem.1 h
  exact ⟨j, hj, by simp [ix, List.getD_eq_getElem?_getD, List.getElem?_eq_getElem hj, e]⟩
theorem R4.start {row head : List Int} {k : Nat} {z i : Int} (h : R3 row k z i) (hz : i = ix row k → z ∈ head) : R4 row head k 0 z i := by
  obtain ⟨j, h1, h2, h3⟩ := h
  rcases Nat.eq_or_lt_of_le h1 with rfl | h4
  · obtain ⟨m, h5, h6⟩ := ix_of_mem (hz h3)
    exact .inl ⟨h3, m, Nat.zero_le _, h5, h6⟩
  · exact .inr ⟨j, h4, h2, h3⟩
theorem R4.next {row head : List Int} {k m : Nat} {z i : Int} (h : R4 row head k m z i) : (z = ix head m ∧ i = ix row k) ∨ R4 row head k (m + 1) z i := by
  rcases h with ⟨h1, j, h2, h3, h4⟩ | h1
  · rcases Nat.eq_or_lt_of_le h2 with rfl | h5
    · exact .inl ⟨h4, h1⟩
    · exact .inr (.inl ⟨h1, j, h5, h3, h4⟩)
  · exact .inr (.inr h1)
theorem R4.done {row head : List Int} {k : Nat} {z i : Int} (h : R4 row head k head.length z i) : R3 row (k + 1) z i := by
  rcases h with ⟨h1, j, h2, h3, h4⟩ | ⟨j, h1, h2, h3⟩
  · omega
  · exact ⟨j, h1, h2, h3⟩
theorem R3.done {row : List Int} {z i : Int} : ¬ R3 row row.length z i := by
  rintro ⟨j, h1, h2, h3⟩; omega
theorem R3.start {p : GP} {R : Int → List Int} (h : RowsAt (fun x => decide (0 < x)) (fun i => (ixR p.rules i).body) p.rules.length 0 R) {y z i : Int} (hy : 1 ≤ y) (hb : InBody p i y) : R3 (R y) 0 z i := by
  have hm : i ∈ R y := ((h y).2 i).2 ⟨decide_eq_true (by omega), .inl hb⟩
  obtain ⟨j, h1, h2⟩ := ix_of_mem hm
  exact ⟨j, Nat.zero_le _, h1, h2⟩
section
variable {m : Nat} {s : SP} {p : GP} {F K : Int → Int} {clock : Int} {a : List Int} {w : World}
theorem GI.small {l : List Int} {C0 : Int} {R : Int → Int → Prop} (h : GI p a F K clock C0 l R) (hn : 0 ≤ p.n ∧ p.n ≤ 4000) (hC : C0 ≤ 2305843009213693952) : (l.length + 1) * 8 ≤ 140737488351232 ∧ clock < 4611686018427387904 ∧ l.length ≤ 4000 := by
  have h1 := cntF_le F p.n.toNat
  have h2 := h.cnt
  have h3 := h.clk
  omega
end
def findTo (F : Int → Int) (a : List Int) : Nat → List Int
  | 0 => []
  | k + 1 => if ¬ 0 < F ((k : Int) + 1) ∧ offB a ((k : Int) + 1) = false then findTo F a k ++ [(k : Int) + 1] else findTo F a k
section
variable {m : Nat} {s : SP} {p : GP} {F K : Int → Int} {clock : Int} {a a0 : List Int} {w : World}
end
section
variable {κ : Nat → Tg} {t : Tg} {w w' : World} {H : Nat}
theorem RulesOwn.rulesA {v : Value} {L : List RQ} (h : RulesOwn κ H v L w) (l : List GR) (hl : L.map (·.1) = l) : RulesAt w v l (fun i => (L.getD i default).2.1) (fun i => (L.getD i default).2.2.1) (fun i => (L.getD i default).2.2.2) := by
  have hlen : l.length = L.length := by rw [← hl]; simp
  have hq : ∀ i, i < l.length → L.getD i default ∈ L ∧ (L.getD i default).1 = ixR l i := fun i hi => by
    have hi' : i < L.length := by omega
    have e : L.getD i default = L[i] := by simp [List.getD_eq_getElem?_getD, List.getElem?_eq_getElem hi']
    rw [e]
    refine ⟨List.getElem_mem hi', ?_⟩
    subst hl
    simp [ixR, List.getD_eq_getElem?_getD, List.getElem?_eq_getElem hi']
  refine ⟨?_, fun i hi => ?_⟩
  · rw [hlen]
    rcases h.row.2 with ⟨rfl, h0⟩ | ⟨g, cap, cur, rfl, hb, hg, hn, hm, hs, hx⟩
    · exact ⟨none, 0, by rw [h0], by omega, by unfold maxLen; omega, by omega, fun hp => by omega⟩
    · refine ⟨_, cap, rfl, hn, hm, h.fit, fun _ => ⟨g, 0, rfl, (Array.getElem?_eq_some_iff.1 hg).1, fun i hi j hj => ?_⟩⟩
      have h6 := flat6 L i j hi hj
      rw [← hx, List.getElem?_take_of_lt (by omega)] at h6
      rw [cell_of_row w g (0 + i * 6 + j) cur _ (0, 0) hg, Nat.zero_add]
      have e2 := (hq i (by omega)).2
      dsimp only
      rw [← e2]
      have : cur[i * 6 + j]? = cur.toList[i * 6 + j]? := by simp
      rw [this, h6]
      rcases (show j = 0 ∨ j = 1 ∨ j = 2 ∨ j = 3 ∨ j = 4 ∨ j = 5 by omega) with rfl | rfl | rfl | rfl | rfl | rfl <;> rfl
  · obtain ⟨hm, e⟩ := hq i hi
    have := h.each _ hm
    rw [← e]
    exact ⟨this.head.ints, this.body.ints, this.wts.ints, this.bound⟩
end
section mono
variable {p : GP} {a : List Int} {F K F' K' : Int → Int}
theorem avSum_mono {r : GR} {b b' : Int} (hw : ∀ k, k < r.w.length → 1 ≤ ix r.w k) (hl : r.w.length = r.body.length) (h : ∀ l ∈ r.body, holdsB a F K b l = true → holdsB a F' K' b' l = true) : ∀ k, k ≤ r.body.length → avSum r a F K b k ≤ avSum r a F' K' b' k
  | 0, _ => Int.le_refl _
  | k + 1, hk => by
    have h1 := avSum_mono hw hl h k (by omega)
    have h2 := hw k (by omega)
    have h3 := h (ix r.body k) (ix_mem (by omega))
    unfold avSum
    cases h4 : holdsB a F K b (ix r.body k) with
    | true => rw [h3 h4]; simp only [if_true]; omega
    | false =>
      simp only [Bool.false_eq_true, if_false]
      split <;> omega
theorem avB_mono {i : Int} {b b' : Int} (hv : validE p = 0) (hi : 0 ≤ i ∧ i < p.rules.length) (h : ∀ l ∈ (ixR p.rules i.toNat).body, holdsB a F K b l = true → holdsB a F' K' b' l = true) (hav : avB p a F K i b = true) : avB p a F' K' i b' = true := by
  unfold avB availB at *
  simp only [Bool.and_eq_true] at *
  refine ⟨hav.1, ?_⟩
  have h2 := hav.2
  have hil : i.toNat < p.rules.length := by omega
  cases hs : (ixR p.rules i.toNat).sum with
  | true =>
    rw [hs] at h2
    simp only [if_true, decide_eq_true_eq] at h2 ⊢
    obtain ⟨h3, h4, -⟩ := weights_sum ((validP hv).sum i.toNat hil hs)
    have := avSum_mono h4 (by omega) h _ (Nat.le_refl _)
    omega
  | false =>
    rw [hs] at h2
    simp only [Bool.false_eq_true, if_false] at h2 ⊢
    exact allR_true fun k hk => h _ (ix_mem hk) (allR_get h2 k hk)
end mono
def avS (p : GP) (a : List Int) (G : Int → Int) (i : Int) : Bool := avB p a G (fun _ => 0) i 1
theorem holds_set {a : List Int} {G : Int → Int} {l : Int} : holdsB a G (fun _ => 0) 1 l = (!offB a l && (decide (l < 0) || decide (0 < G l))) := by
  unfold holdsB
  have : decide ((0 : Int) < 1) = true := decide_eq_true (by omega)
  rw [this, Bool.and_true]
def Closed (p : GP) (a : List Int) (G : Int → Int) : Prop :=
  ∀ x i, 1 ≤ x → x ≤ p.n → offB a x = false → InHead p i x → avS p a G i = true → 0 < G x
structure IsFnd (p : GP) (a : List Int) (G : Int → Int) : Prop where
  dom : ∀ x, 0 < G x → 1 ≤ x ∧ x ≤ p.n
  closed : Closed p a G
  least : ∀ T, Closed p a T → ∀ x, 0 < G x → 0 < T x
theorem IsFnd.unique {p : GP} {a : List Int} {G G' : Int → Int} (h : IsFnd p a G) (h' : IsFnd p a G') (x : Int) : 0 < G x ↔ 0 < G' x :=
  ⟨h.least G' h'.closed x, h'.least G h.closed x⟩
structure Round (p : GP) (F K G0 G : Int → Int) (x : Int) : Prop where
  one : ∀ y, G y = 0 ∨ (G y = 1 ∧ 0 < F y)
  up : ∀ y, 0 < G0 y → 0 < G y
  done : ∀ y, 1 ≤ y → y < x → 0 < F y → (∀ l, 0 < F l → K l < K y → 0 < G0 l) → 0 < G y
section round
variable {p : GP} {a : List Int} {F K G0 G : Int → Int} {clock x : Int}
theorem Round.start (h : ∀ y, G y = 0 ∨ (G y = 1 ∧ 0 < F y)) : Round p F K G G 1 := ⟨h, fun _ h => h, fun y h1 h2 => by omega⟩
theorem Round.add (h : Round p F K G0 G x) (hF : 0 < F x) : Round p F K G0 (setI G x 1) (x + 1) := by
  refine ⟨fun y => ?_, fun y hy => ?_, fun y h1 h2 h3 h4 => ?_⟩ <;> by_cases e : y = x
  · subst e; rw [setI_eq]; exact .inr ⟨rfl, hF⟩
  · rw [setI_ne G _ e]; exact h.one y
  · subst e; rw [setI_eq]; omega
  · rw [setI_ne G _ e]; exact h.up y hy
  · subst e; rw [setI_eq]; omega
  · rw [setI_ne G _ e]; exact h.done y h1 (by omega) h3 h4
theorem Round.skip (hv : validE p = 0) (hl : Lost p a F K clock) (h : Round p F K G0 G x) (hs : ¬ 0 < F x ∨ 0 < G x ∨ avS p a G (F x - 1) = false) : Round p F K G0 G (x + 1) := by
  refine ⟨h.one, h.up, fun y h1 h2 h3 h4 => ?_⟩
  by_cases e : y = x
  · subst e
    rcases hs with h5 | h5 | h5
    · exact absurd h3 h5
    · exact h5
    · have hin : InHead p (F y - 1) y := by
        rcases hl.inv y with h6 | h6
        · omega
        · exact h6.2.2.2.1
      have : avS p a G (F y - 1) = true := avB_mono hv ⟨hin.1, hin.2.1⟩ (fun l hl hh => by
        rw [holds_set]
        unfold holdsB at hh
        simp only [Bool.and_eq_true, Bool.or_eq_true, decide_eq_true_eq] at hh ⊢
        exact ⟨hh.1, hh.2.imp id (fun h6 => h.up l (h4 l h6.1 h6.2))⟩) (hl.ok y h3)
      rw [h5] at this; cases this
  · exact h.done y h1 (by omega) h3 h4
end round
def posR (r : GR) : Bool := decide (r.head.length = 1) && !r.choice && allR r.body.length (fun k => decide (0 < ix r.body k))
def posRules (l : List GR) : List GR := l.filter posR
def GP.pos (p : GP) : GP := { p with rules := posRules p.rules }
theorem ixR_mem {l : List GR} {i : Nat} (hi : i < l.length) : ixR l i ∈ l := by
  have : ixR l i = l[i] := by simp [ixR, List.getD_eq_getElem?_getD, List.getElem?_eq_getElem hi]
  rw [this]; exact List.getElem_mem hi
theorem ixR_of_mem {l : List GR} {r : GR} (h : r ∈ l) : ∃ i, i < l.length ∧ ixR l i = r := by
  obtain ⟨i, hi, e⟩ := List.mem_iff_getElem.1 h
  exact ⟨i, hi, by simp [ixR, List.getD_eq_getElem?_getD, List.getElem?_eq_getElem hi, e]⟩
theorem lhs_all {M : List Int} {r : GR} (hs : r.sum = false) : ∀ k, lhsTo M r k ≤ k ∧ ((k : Int) ≤ lhsTo M r k ↔ ∀ j, j < k → ix r.body j ∈ M)
  | 0 => by simp [lhsTo]
  | k + 1 => by
    have ih := lhs_all (M := M) hs k
    have hw : wOf r k = 1 := by unfold wOf; rw [hs]; rfl
    unfold lhsTo
    rw [hw]
    by_cases h : ix r.body k ∈ M
    · rw [if_pos h]
      push_cast
      refine ⟨by omega, ⟨fun h1 => lt_succ_all (ih.2.1 (by omega)) h, fun h1 => by have := ih.2.2 (fun j hj => h1 j (by omega)); omega⟩⟩
    · rw [if_neg h]
      push_cast
      refine ⟨by omega, ⟨fun h1 => by omega, fun h1 => absurd (h1 k (by omega)) h⟩⟩
section
variable {s : SP} {p : GP} {F K : Int → Int} {clock : Int} {w : World}
end
end Go.Proofs.YtjodocheiejkeaaGreatDoor
