/- My texts CpP, Mem, LeastP, Fn, merged. -/
import Derived.Test.YtjodocheiejkeaaGreatDoorM04
import Derived.Test.YtjodocheiejkeaaGreatDoorM00
import Derived.Test.YtjodocheiejkeaaGreatDoorProg
import Derived.WalkKit
import Derived.Lib.Hide
import Derived.Deep.QuietTactic
import Derived.BigQuiet
import Derived.Test.YtjodocheiejkeaaGreatDoorM03
import Derived.Lib.Bytealg
import Derived.MapKept
import Derived.Maps.OwnSet
import Derived.Maps.OwnOps
import Derived.WalkSpells
import Derived.Lib.SliceRun
import Derived.Test.YtjodocheiejkeaaGreatDoorM02
import Derived.Test.YtjodocheiejkeaaGreatDoorM01
import Derived.Deep.AppendLies
import Derived.Deep.DeepCutAuto

namespace Go.Proofs.YtjodocheiejkeaaGreatDoor
def negL (l : List Int) : List Int := l.map fun x => -x
def restI (r : GR) : Int := 1 - r.bound + sumTo r.w r.w.length
def compH (r : GR) (b : Int) : List PBC :=
  if r.sum then [(normP (r.body ++ [-b]) (r.w ++ [r.bound]) r.bound).1, (normP (negL r.body ++ [b]) (r.w ++ [max (restI r) 0]) (restI r)).1]
  else (r.body.map fun l => (clauseP [-b, l]).1) ++ [(clauseP (negL r.body ++ [b])).1]
def compR (r : GR) (b : Int) : List PBC := compH r b ++ (if r.choice then [] else [(clauseP (r.head ++ [-b])).1])
def supAt' (p : GP) (a : Int) : Nat → List Int
  | 0 => []
  | k + 1 => supAt' p a k ++ (if a ∈ (ixR p.rules k).head then [p.n + 1 + k] else [])
def atomC (p : GP) (a : Int) : PBC := (clauseP (supAt' p a p.rules.length ++ [-a])).1
def compTo (p : GP) : Nat → List PBC
  | 0 => []
  | k + 1 => compTo p k ++ compR (ixR p.rules k) (p.n + 1 + k)
def atomTo (p : GP) : Nat → List PBC
  | 0 => []
  | k + 1 => atomTo p k ++ [atomC p ((k : Int) + 1)]
def compL (p : GP) : List PBC := compTo p p.rules.length ++ atomTo p p.n.toNat
section
variable {r : GR} {n b : Int}
end
end Go.Proofs.YtjodocheiejkeaaGreatDoor
namespace Go.Proofs.YtjodocheiejkeaaGreatDoor
open Go.RowKit
theorem run_makeMapI {P : Program} {t kt et : TypeId} (ht : P.underlying t = some (.map kt et)) (n : Int) (w : World) : (Instr.makeMap t (some (.int .i64 n))).run P w = .ok (.map (some w.heap.size)) (w.alloc (.map #[] 0)) := by
  simp [Instr.makeMap, run_underlying ht, Result.andThen, asInt, asIntOf]
def MemSt (W4 : World) (bm : Nat) (U : List Int) (k : Nat) (wx : World) : Prop :=
  ∃ G, MapIs (Value.int .i64) wx bm (mapI G) ∧ (∀ y, 0 ≤ G y ∧ G y ≤ k ∧ (0 < G y ↔ y ∈ U.take k)) ∧ Below W4.heap.size W4 wx
def MemRel (W4 : World) (bm : Nat) (U : List Int) (i : Value) (wx : World) : Prop := ∃ k : Nat, k ≤ U.length ∧ i = .int .i64 k ∧ MemSt W4 bm U k wx
theorem take_ixM (U : List Int) (k : Nat) (hk : k < U.length) : U.take (k + 1) = U.take k ++ [ix U k] := by
  rw [List.take_succ_eq_append_getElem hk]
  simp [ix, List.getD_eq_getElem?_getD, List.getElem?_eq_getElem hk]
theorem MemSt.start (W4 : World) (U : List Int) : MemSt W4 W4.heap.size U 0 (W4.alloc (.map #[] 0)) := by
  refine ⟨fun _ => 0, ?_, fun y => by simp, bal (Below.refl _ _) _⟩
  have : mapI (fun _ => 0) = fun _ => none := by funext x; simp [mapI]
  rw [this]; exact MapIs.made W4
theorem MemSt.put {W4 wx w7 : World} {U : List Int} {k : Nat} {G : Int → Int} (hG : ∀ y, 0 ≤ G y ∧ G y ≤ k ∧ (0 < G y ↔ y ∈ U.take k)) (hb : Below W4.heap.size W4 wx) (hk : k < U.length)
    (hm : MapIs (Value.int .i64) w7 W4.heap.size (upd (mapI G) (ix U k) (some (.int .i64 (G (ix U k) + 1))))) (hg : wx.grownBy w7 (some W4.heap.size)) : MemSt W4 W4.heap.size U (k + 1) w7 := by
  have hx := hG (ix U k)
  have hsz := hb.size
  refine ⟨setI G (ix U k) (G (ix U k) + 1), by rw [mapI_set (by omega)]; exact hm, fun y => ?_, hb.trans ⟨hg.os, hg.tape, hg.output, hg.size, fun i hi => hg.block i (by omega) (fun e => by have := Option.some.inj e; omega)⟩⟩
  rw [take_ixM U k hk, List.mem_append, List.mem_singleton]
  by_cases e : y = ix U k
  · subst e
    have e2 : setI G (ix U k) (G (ix U k) + 1) (ix U k) = G (ix U k) + 1 := by simp [setI]
    rw [e2]
    exact ⟨by omega, by omega, ⟨fun _ => .inr rfl, fun _ => by omega⟩⟩
  · have e2 : setI G (ix U k) (G (ix U k) + 1) y = G y := by simp [setI, e]
    rw [e2]
    have := hG y
    exact ⟨this.1, by omega, ⟨fun h => .inl (this.2.2.1 h), fun h => this.2.2.2 (h.resolve_right e)⟩⟩
def InM (w : World) (mb : Nat) (m : List Int) : Prop :=
  ∃ b G, Blk w mb [.map (some b)] 41 ∧ MapIs (Value.int .i64) w b (mapI G) ∧ ∀ y, 0 < G y ↔ y ∈ m
theorem InM.below {w w' : World} {mb : Nat} {m : List Int} (h : InM w mb m) (hb : Below w.heap.size w w') : InM w' mb m :=
  let ⟨b, G, h1, h2, h3⟩ := h; ⟨b, G, h1.below hb, h2.below hb, h3⟩
theorem InM.lt {w : World} {mb : Nat} {m : List Int} (h : InM w mb m) : mb < w.heap.size := let ⟨_, _, h1, _⟩ := h; h1.lt
def MbRel (W : World) (m : List Int) (i : Value) (wx : World) : Prop := MemRel W W.heap.size m i wx ∧ Blk wx (W.heap.size + 1) [.map (some W.heap.size)] 41
set_option maxHeartbeats 1000000 in
theorem member_any (v : Value) (m : List Int) (w : World) (h : Ints w v m) (hlen : m.length ≤ 1000000000) :
    Calls Tryz.prog 82 #[v] w fun e w' => ∃ mb, e = .returned (.func (.func 118) #[] #[.pointer (some ⟨mb, 0, none⟩)]) ∧ InM w' mb m ∧ Below w.heap.size w w' := by
  obtain ⟨a1, c1, rfl, -, hl1, -, hcell⟩ := h.form
  clear h
  have hmm := fun n w => run_makeMapI Tryz.underlying41 n w
  go_enter Tryz.func82, Tryz.ntmps82
  go_wp2
  go_loopw [11] (fun i wx => MbRel w m i wx) (fun i _ => m.length - (intOf i).toNat)
  case atStart => exact ⟨⟨0, Nat.zero_le _, rfl, (let ⟨G, h1, h2, h3⟩ := MemSt.start w m; ⟨G, h1.alloc _, h2, bal h3 _⟩)⟩, Blk.newAt _ _ _ (by simp)⟩
  case round =>
    obtain ⟨⟨k, hk, rfl, hst⟩, hbk⟩ := hrel
    obtain ⟨G, hmap, hG, hbl⟩ := hst
    have HBL := Lib.hid hbl
    have HMAP := Lib.hid hmap
    have HG := Lib.hid hG
    have HBK := Lib.hid hbk
    have kb := hbk.cell 0
    by_cases hlt : k < m.length
    · obtain ⟨b, off, rfl, hbl2, hc⟩ := hcell (by omega)
      have hcx : wr.cell? ⟨b, off + k, none⟩ = some (.int .i64 (ix m k)) := (bcell hbl _ _ hbl2).trans (hc k hlt)
      have hlk := mapI_look hmap (ix m k)
      have hGk := hG (ix m k)
      have hGb : 0 ≤ G (ix m k) ∧ G (ix m k) ≤ 1000000000 := by omega
      clear hc hcell hmap hG hbl hGk hbk hmm
      go_wp2_with (at_mapUpdate; refine wpList_mput _ _ (ix m k) (.int .i64 (G (ix m k) + 1)) kvInt 41 3 3 Tryz.underlying41 Tryz.underlying3 rfl _ _ _ rfl rfl rfl rfl HMAP.out ?_; intro w7 hm7 hg7 hs7; have HS7 := Lib.hid (MemSt.put HG.out HBL.out hlt hm7 hg7); have HB7 := Lib.hid (HBK.out.same (hg7.block _ HBK.out.lt (by intro e; have := Option.some.inj e; omega))); clear hm7 hg7 hs7)
      first
        | (go_roundw
           case rel => (exact ⟨⟨k + 1, hlt, by go_num, HS7.out⟩, HB7.out⟩)
           case measure => (simp [intOf]; omega))
        | (refine ⟨?_, ?_⟩
           · (exact ⟨⟨k + 1, hlt, by go_num, HS7.out⟩, HB7.out⟩)
           · (simp [intOf]; omega))
    · obtain rfl : k = m.length := by omega
      have HIN : Hid (InM wr (w.heap.size + 1) m) := Lib.hid ⟨_, G, hbk, hmap, fun y => by have := (hG y).2.2; rwa [List.take_length] at this⟩
      clear hmap hG hbk hmm
      go_wp2
      go_ret
      exact ⟨_, rfl, HIN.out, HBL.out⟩
theorem memb1_any (x : Int) (m : List Int) (mb : Nat) (w : World) (h : InM w mb m) :
    Calls Tryz.prog 118 #[.int .i64 x, .pointer (some ⟨mb, 0, none⟩)] w fun e w' => e = .returned (.bool (decide (x ∈ m))) ∧ w = w' := by
  obtain ⟨b, G, hb, hm, hG⟩ := h
  have hlk := mapI_look hm x
  have kb := hb.cell 0
  have HF : Hid (decide (0 < G x) = decide (x ∈ m)) := Lib.hid (decide_eq_decide.2 (hG x))
  clear hm hG hb
  go_enter Tryz.func118, Tryz.ntmps118
  go_wp2
  go_ret
  exact ⟨ret_bool HF.out, rfl⟩
def litT (m : List Int) (l : Int) : Bool := if 0 < l then decide (l ∈ m) else !decide (-l ∈ m)
theorem holdsL_any (x : Int) (m : List Int) (mb : Nat) (w : World) (h : InM w mb m) (hx : -9223372036854775808 < x ∧ x ≤ 9223372036854775807) :
    Calls Tryz.prog 117 #[.int .i64 x, .func (.func 118) #[] #[.pointer (some ⟨mb, 0, none⟩)]] w fun e w' => e = .returned (.bool (litT m x)) ∧ w = w' := by
  have H := Lib.hid h
  clear h
  by_cases hp : 0 < x
  · have HF : Hid (litT m x = decide (x ∈ m)) := Lib.hid (if_pos hp)
    go_enter Tryz.func117, Tryz.ntmps117
    go_wp2_with (go_at_call 118; (with_reducible refine (memb1_any _ m _ _ H.out).mono ?_); rintro e w1 ⟨rfl, rfl⟩)
    go_ret
    exact ⟨ret_bool HF.out.symm, rfl⟩
  · have HF : Hid (litT m x = !decide (-x ∈ m)) := Lib.hid (if_neg hp)
    go_enter Tryz.func117, Tryz.ntmps117
    go_wp2_with (go_at_call 118; (with_reducible refine (memb1_any _ m _ _ H.out).mono ?_); rintro e w1 ⟨rfl, rfl⟩)
    go_ret
    exact ⟨ret_bool HF.out.symm, rfl⟩
def wOf (r : GR) (k : Nat) : Int := if r.sum then ix r.w k else 1
def need0 (r : GR) : Int := if r.sum then r.bound else r.body.length
def lhsTo (C : List Int) (r : GR) : Nat → Int
  | 0 => 0
  | k + 1 => lhsTo C r k + if ix r.body k ∈ C then wOf r k else 0
def lhs (C : List Int) (r : GR) : Int := lhsTo C r r.body.length
def occTo (a : Int) (r : GR) : Nat → Int
  | 0 => 0
  | k + 1 => occTo a r k + if ix r.body k = a then wOf r k else 0
def stepU (U : Int → List (Int × Int)) (r : GR) (i : Nat) : Nat → Int → List (Int × Int)
  | 0 => U
  | k + 1 => fun a => if a = ix r.body k then stepU U r i k a ++ [((i : Int), wOf r k)] else stepU U r i k a
def usesU (R : List GR) : Nat → Int → List (Int × Int)
  | 0 => fun _ => []
  | i + 1 => stepU (usesU R i) (ixR R i) i (ixR R i).body.length
def sumAt (i : Int) : List (Int × Int) → Int
  | [] => 0
  | u :: l => (if u.1 = i then u.2 else 0) + sumAt i l
theorem sumAt_append (i : Int) : ∀ l m : List (Int × Int), sumAt i (l ++ m) = sumAt i l + sumAt i m
  | [], m => by simp [sumAt]
  | u :: l, m => by simp only [List.cons_append, sumAt]; rw [sumAt_append i l m]; omega
theorem stepU_sum (U : Int → List (Int × Int)) (r : GR) (i' : Nat) (i a : Int) : ∀ k, sumAt i (stepU U r i' k a) = sumAt i (U a) + if (i' : Int) = i then occTo a r k else 0
  | 0 => by simp [stepU, occTo]
  | k + 1 => by
    have ih := stepU_sum U r i' i a k
    unfold stepU occTo
    by_cases h : a = ix r.body k
    · rw [if_pos h, sumAt_append, ih]
      simp only [sumAt]
      rw [if_pos h.symm]
      split <;> omega
    · rw [if_neg h, ih, if_neg (show ¬ ix r.body k = a from fun e => h e.symm), Int.add_zero]
theorem usesU_sum (R : List GR) (i : Nat) (a : Int) : ∀ m, sumAt i (usesU R m a) = if i < m then occTo a (ixR R i) (ixR R i).body.length else 0
  | 0 => by simp [usesU, sumAt]
  | m + 1 => by
    unfold usesU
    rw [stepU_sum, usesU_sum R i a m]
    by_cases h : m = i
    · subst h; simp
    · rw [if_neg (show ¬ (m : Int) = i by omega)]
      by_cases h2 : i < m
      · rw [if_pos h2, if_pos (by omega)]; omega
      · rw [if_neg h2, if_neg (by omega)]; omega
theorem stepU_mem {U : Int → List (Int × Int)} {r : GR} {i : Nat} {a : Int} {u : Int × Int} : ∀ k, u ∈ stepU U r i k a ↔ u ∈ U a ∨ ∃ j, j < k ∧ ix r.body j = a ∧ u = ((i : Int), wOf r j)
  | 0 => by simp [stepU]
  | k + 1 => by
    have ih := stepU_mem (U := U) (r := r) (i := i) (a := a) (u := u) k
    unfold stepU
    constructor
    · intro h
      split at h
      · rename_i e
        rcases List.mem_append.1 h with h | h
        · rcases ih.1 h with h | ⟨j, h1, h2⟩
          · exact .inl h
          · exact .inr ⟨j, by omega, h2⟩
        · exact .inr ⟨k, by omega, e.symm, by simpa using h⟩
      · rcases ih.1 h with h | ⟨j, h1, h2⟩
        · exact .inl h
        · exact .inr ⟨j, by omega, h2⟩
    · intro h
      have h' : u ∈ stepU U r i k a ∨ (a = ix r.body k ∧ u = ((i : Int), wOf r k)) := by
        rcases h with h | ⟨j, h1, h2, h3⟩
        · exact .inl (ih.2 (.inl h))
        · by_cases hj : j = k
          · subst hj; exact .inr ⟨h2.symm, h3⟩
          · exact .inl (ih.2 (.inr ⟨j, by omega, h2, h3⟩))
      split
      · rename_i e
        rcases h' with h' | ⟨_, h'⟩
        · exact List.mem_append_left _ h'
        · exact List.mem_append_right _ (by simp [h'])
      · rename_i e
        rcases h' with h' | ⟨h', _⟩
        · exact h'
        · exact absurd h' e
theorem usesU_mem {R : List GR} {a : Int} {u : Int × Int} : ∀ m, u ∈ usesU R m a ↔ ∃ i j : Nat, i < m ∧ j < (ixR R i).body.length ∧ ix (ixR R i).body j = a ∧ u = ((i : Int), wOf (ixR R i) j)
  | 0 => by simp [usesU]
  | m + 1 => by
    unfold usesU
    rw [stepU_mem, usesU_mem m]
    constructor
    · rintro (⟨i, j, h1, h2⟩ | ⟨j, h1, h2⟩)
      · exact ⟨i, j, by omega, h2⟩
      · exact ⟨m, j, by omega, h1, h2⟩
    · rintro ⟨i, j, h1, h2⟩
      by_cases e : i = m
      · subst e; exact .inr ⟨j, h2⟩
      · exact .inl ⟨i, j, by omega, h2⟩
theorem stepU_len (U : Int → List (Int × Int)) (r : GR) (i : Nat) (a : Int) : ∀ k, (stepU U r i k a).length ≤ (U a).length + k
  | 0 => by simp [stepU]
  | k + 1 => by
    have := stepU_len U r i a k
    unfold stepU
    split
    · simp; omega
    · omega
theorem usesU_len (R : List GR) (a : Int) (B : Nat) (h : ∀ i, i < R.length → (ixR R i).body.length ≤ B) : ∀ m, m ≤ R.length → (usesU R m a).length ≤ m * B
  | 0, _ => by simp [usesU]
  | m + 1, hm => by
    have h1 := usesU_len R a B h m (by omega)
    have h2 := stepU_len (usesU R m) (ixR R m) m a (ixR R m).body.length
    have h3 := h m (by omega)
    unfold usesU
    rw [Nat.succ_mul]
    omega
theorem lhsTo_push {C : List Int} {a : Int} (h : a ∉ C) (r : GR) : ∀ k, lhsTo (C ++ [a]) r k = lhsTo C r k + occTo a r k
  | 0 => by simp [lhsTo, occTo]
  | k + 1 => by
    unfold lhsTo occTo
    rw [lhsTo_push h r k]
    by_cases e : ix r.body k = a
    · rw [if_pos e, if_pos (by simp [e]), if_neg (by rw [e]; exact h)]; omega
    · rw [if_neg e]
      by_cases e2 : ix r.body k ∈ C
      · rw [if_pos e2, if_pos (by simp [e2])]; omega
      · rw [if_neg e2, if_neg (by simp [e, e2])]; omega
structure DefR (n : Int) (R : List GR) : Prop where
  rng : 0 ≤ n ∧ n ≤ 4000
  len : R.length ≤ 40000
  head : ∀ i, i < R.length → (ixR R i).head.length ≤ 1 ∧ ∀ x ∈ (ixR R i).head, 1 ≤ x ∧ x ≤ n
  body : ∀ i, i < R.length → (∀ k, k < (ixR R i).body.length → 1 ≤ ix (ixR R i).body k ∧ ix (ixR R i).body k ≤ n) ∧ (ixR R i).body.length ≤ 8002
  wts : ∀ i, i < R.length → (ixR R i).sum = true → (ixR R i).w.length = (ixR R i).body.length ∧ ∀ k, k < (ixR R i).w.length → 1 ≤ ix (ixR R i).w k ∧ ix (ixR R i).w k ≤ 1048576 - sumTo (ixR R i).w k
  bound : ∀ i, i < R.length → (ixR R i).sum = true → 0 ≤ (ixR R i).bound ∧ (ixR R i).bound ≤ 1048576
section
variable {n : Int} {R : List GR}
theorem DefR.w1 (h : DefR n R) {i : Nat} (hi : i < R.length) {k : Nat} (hk : k < (ixR R i).body.length) : 1 ≤ wOf (ixR R i) k ∧ wOf (ixR R i) k ≤ 1048576 ∧ ((ixR R i).sum = true → k < (ixR R i).w.length) := by
  unfold wOf
  cases hs : (ixR R i).sum with
  | false => simp
  | true =>
    obtain ⟨h1, h2⟩ := h.wts i hi hs
    have h3 := h2 k (by omega)
    have : ∀ m, m ≤ (ixR R i).w.length → 0 ≤ sumTo (ixR R i).w m := fun m => by
      induction m with
      | zero => intro _; simp [sumTo]
      | succ m ih => intro hm; have := ih (by omega); have := h2 m (by omega); unfold sumTo; omega
    have := this k (by omega)
    simp only [if_true]
    exact ⟨h3.1, by omega, fun _ => by omega⟩
theorem DefR.lhs_le (h : DefR n R) {i : Nat} (hi : i < R.length) (C : List Int) : ∀ k, k ≤ (ixR R i).body.length → 0 ≤ lhsTo C (ixR R i) k ∧ lhsTo C (ixR R i) k ≤ (if (ixR R i).sum then sumTo (ixR R i).w k else k)
  | 0, _ => by simp [lhsTo, sumTo]
  | k + 1, hk => by
    have ih := DefR.lhs_le h hi C k (by omega)
    have hw := (h.w1 hi (show k < _ by omega)).1
    unfold lhsTo
    have hle : wOf (ixR R i) k = if (ixR R i).sum then ix (ixR R i).w k else 1 := rfl
    cases hs : (ixR R i).sum with
    | false =>
      rw [hs] at ih hle
      simp only [if_false, Bool.false_eq_true] at ih hle ⊢
      split <;> push_cast <;> omega
    | true =>
      rw [hs] at ih hle
      simp only [if_true] at ih hle ⊢
      unfold sumTo
      split <;> omega
theorem DefR.sum_le (h : DefR n R) {i : Nat} (hi : i < R.length) (hs : (ixR R i).sum = true) : ∀ k, k ≤ (ixR R i).w.length → sumTo (ixR R i).w k ≤ 1048576
  | 0, _ => by simp [sumTo]
  | k + 1, hk => by have := (h.wts i hi hs).2 k (by omega); unfold sumTo; omega
theorem DefR.need (h : DefR n R) {i : Nat} (hi : i < R.length) (C : List Int) {k : Nat} (hk : k ≤ (ixR R i).body.length) : -1048576 ≤ need0 (ixR R i) - lhsTo C (ixR R i) k ∧ need0 (ixR R i) - lhsTo C (ixR R i) k ≤ 1048576 := by
  have h1 := h.lhs_le hi C k hk
  have hb := (h.body i hi).2
  unfold need0
  cases hs : (ixR R i).sum with
  | false =>
    rw [hs] at h1
    simp only [if_false, Bool.false_eq_true] at h1 ⊢
    omega
  | true =>
    rw [hs] at h1
    have h2 := h.sum_le hi hs k (by have := (h.wts i hi hs).1; omega)
    have h3 := h.bound i hi hs
    simp only [if_true] at h1 ⊢
    omega
theorem lhsTo_mono (h : DefR n R) {i : Nat} (hi : i < R.length) {C C' : List Int} (hc : ∀ x ∈ C, x ∈ C') : ∀ k, k ≤ (ixR R i).body.length → lhsTo C (ixR R i) k ≤ lhsTo C' (ixR R i) k
  | 0, _ => by simp [lhsTo]
  | k + 1, hk => by
    have ih := lhsTo_mono h hi hc k (by omega)
    have hw := (h.w1 hi (show k < _ by omega)).1
    unfold lhsTo
    by_cases h1 : ix (ixR R i).body k ∈ C
    · rw [if_pos h1, if_pos (hc _ h1)]; omega
    · rw [if_neg h1]; split <;> omega
theorem lhsTo_congr {C C' : List Int} (hc : ∀ x, x ∈ C ↔ x ∈ C') (r : GR) : ∀ k, lhsTo C r k = lhsTo C' r k
  | 0 => rfl
  | k + 1 => by unfold lhsTo; rw [lhsTo_congr hc r k]; simp only [hc]
def ClosedD (R : List GR) (T : List Int) : Prop := ∀ i, i < R.length → need0 (ixR R i) ≤ lhs T (ixR R i) → ∀ x ∈ (ixR R i).head, x ∈ T
def Der (R : List GR) (x : Int) : Prop := ∀ T, ClosedD R T → x ∈ T
structure IsLeast (R : List GR) (M : List Int) : Prop where
  closed : ClosedD R M
  least : ∀ x ∈ M, Der R x
theorem der_of (h : DefR n R) {C : List Int} (hC : ∀ x ∈ C, Der R x) {i : Nat} (hi : i < R.length) (hn : need0 (ixR R i) ≤ lhs C (ixR R i)) {x : Int} (hx : x ∈ (ixR R i).head) : Der R x := fun T hT =>
  hT i hi (Int.le_trans hn (lhsTo_mono h hi (fun y hy => hC y hy T hT) _ (Nat.le_refl _))) x hx
structure Lv (n : Int) (R : List GR) (C l od nd : List Int) : Prop where
  nodup : (C ++ l).Nodup
  range : ∀ x ∈ C ++ l, 1 ≤ x ∧ x ≤ n
  olen : (od.length : Int) = n
  nlen : nd.length = R.length
  out : ∀ x : Int, 1 ≤ x → x ≤ n → (0 < ix od (x - 1).toNat ↔ x ∈ C ++ l) ∧ 0 ≤ ix od (x - 1).toNat ∧ ix od (x - 1).toNat ≤ 4000000
  der : ∀ x ∈ C ++ l, Der R x
def Asked (R : List GR) (A nd : List Int) (Todo : Nat → Prop) : Prop := ∀ i, i < R.length → ix nd i ≤ 0 → (∀ x ∈ (ixR R i).head, x ∈ A) ∨ Todo i
def Paid (R : List GR) (C nd : List Int) : Prop := ∀ i, i < R.length → ix nd i = need0 (ixR R i) - lhs C (ixR R i)
theorem nodup_short : ∀ (n : Nat) (l : List Int), l.Nodup → (∀ x ∈ l, 1 ≤ x ∧ x ≤ n) → l.length ≤ n
  | 0, l, _, h => by
    cases l with
    | nil => simp
    | cons x l => have := h x (by simp); omega
  | n + 1, l, hd, h => by
    by_cases hm : ((n : Int) + 1) ∈ l
    · have h1 := List.length_erase_of_mem hm
      have h2 := nodup_short n (l.erase ((n : Int) + 1)) (hd.erase _) (fun x hx => by
        have h3 := (hd.mem_erase_iff.1 hx)
        have h4 := h x h3.2
        have h5 := h3.1
        omega)
      omega
    · have := nodup_short n l hd (fun x hx => by
        have h4 := h x hx
        have h5 : x ≠ (n : Int) + 1 := fun e => hm (e ▸ hx)
        omega)
      omega
theorem Lv.short {C l od nd : List Int} (h : Lv n R C l od nd) (hn : 0 ≤ n) : (C ++ l).length ≤ n.toNat := by
  exact nodup_short _ _ h.nodup (fun x hx => by have := h.range x hx; omega)
theorem ix_set (l : List Int) (i j : Nat) (v : Int) (hi : i < l.length) : ix (l.set i v) j = if j = i then v else ix l j := by
  unfold ix
  simp only [List.getD_eq_getElem?_getD]
  by_cases h : j = i
  · subst h; rw [if_pos rfl, List.getElem?_set_self hi]; rfl
  · rw [if_neg h, List.getElem?_set_ne (by omega)]
theorem Lv.take {C l od nd : List Int} (hd : DefR n R) (h : Lv n R C l od nd) (hp : Paid R C nd) {i : Nat} (hi : i < R.length) (h0 : ix nd i ≤ 0) {x : Int} (hx : (ixR R i).head = [x]) (ho : ix od (x - 1).toNat = 0) {round : Int} (hr : 1 ≤ round ∧ round ≤ 4000000) :
    Lv n R C (l ++ [x]) (od.set (x - 1).toNat round) nd := by
  have hxr := (hd.head i hi).2 x (by rw [hx]; simp)
  have hxn : x ∉ C ++ l := fun hm => by have := (h.out x hxr.1 hxr.2).1.2 hm; omega
  have hol := h.olen
  have hlt : (x - 1).toNat < od.length := by omega
  refine ⟨by rw [← List.append_assoc]; exact List.nodup_append.2 ⟨h.nodup, by simp, fun a ha b hb => by simp only [List.mem_singleton] at hb; subst hb; rintro rfl; exact hxn ha⟩, fun y hy => ?_, by simpa using hol, h.nlen, fun y h1 h2 => ?_, fun y hy => ?_⟩
  · rw [← List.append_assoc] at hy
    rcases List.mem_append.1 hy with hy | hy
    · exact h.range y hy
    · simp only [List.mem_singleton] at hy; subst hy; exact hxr
  · rw [ix_set _ _ _ _ hlt, ← List.append_assoc]
    by_cases e : y = x
    · subst e; rw [if_pos rfl]; simp; omega
    · rw [if_neg (by omega)]
      have h3 := h.out y h1 h2
      refine ⟨h3.1.trans ?_, h3.2⟩
      simp [e]
  · rw [← List.append_assoc] at hy
    rcases List.mem_append.1 hy with hy | hy
    · exact h.der y hy
    · simp only [List.mem_singleton] at hy; subst hy
      exact der_of hd (fun z hz => h.der z (List.mem_append_left _ hz)) hi (by have := hp i hi; omega) (by rw [hx]; simp)
theorem lhsTo_nil (r : GR) : ∀ k, lhsTo [] r k = 0
  | 0 => rfl
  | k + 1 => by unfold lhsTo; rw [lhsTo_nil r k]; simp
theorem lhsTo_same {C C' : List Int} {r : GR} : ∀ k, (∀ j, j < k → (ix r.body j ∈ C ↔ ix r.body j ∈ C')) → lhsTo C r k = lhsTo C' r k
  | 0, _ => rfl
  | k + 1, h => by
    unfold lhsTo
    rw [lhsTo_same k (fun j hj => h j (by omega))]
    by_cases h1 : ix r.body k ∈ C
    · rw [if_pos h1, if_pos ((h k (by omega)).1 h1)]
    · rw [if_neg h1, if_neg (fun h2 => h1 ((h k (by omega)).2 h2))]
theorem sumAt_nonneg (i : Int) : ∀ l : List (Int × Int), (∀ u ∈ l, 0 ≤ u.2) → 0 ≤ sumAt i l
  | [], _ => by simp [sumAt]
  | u :: l, h => by
    have h1 := sumAt_nonneg i l (fun v hv => h v (by simp [hv]))
    have h2 := h u (by simp)
    unfold sumAt
    split <;> omega
theorem sumAt_take_le (i : Int) (l : List (Int × Int)) (h : ∀ u ∈ l, 0 ≤ u.2) (q : Nat) : 0 ≤ sumAt i (l.take q) ∧ sumAt i (l.take q) ≤ sumAt i l := by
  have h1 := sumAt_nonneg i (l.take q) (fun u hu => h u (List.mem_of_mem_take hu))
  have h2 := sumAt_nonneg i (l.drop q) (fun u hu => h u (List.mem_of_mem_drop hu))
  have h3 := sumAt_append i (l.take q) (l.drop q)
  rw [List.take_append_drop] at h3
  omega
theorem sumAt_take_succ (i : Int) (l : List (Int × Int)) (q : Nat) (hq : q < l.length) : sumAt i (l.take (q + 1)) = sumAt i (l.take q) + if (l.getD q (0, 0)).1 = i then (l.getD q (0, 0)).2 else 0 := by
  rw [List.take_add_one, List.getElem?_eq_getElem hq, sumAt_append]
  simp [sumAt, List.getD_eq_getElem?_getD, List.getElem?_eq_getElem hq]
def Todo (R : List GR) (L : List Int) (j : Nat) (i : Nat) : Prop := ∃ j', j ≤ j' ∧ j' < L.length ∧ ∃ u ∈ usesU R R.length (ix L j'), u.1 = (i : Int)
def Todo2 (R : List GR) (L : List Int) (j q : Nat) (i : Nat) : Prop := (∃ q', q ≤ q' ∧ q' < (usesU R R.length (ix L j)).length ∧ ((usesU R R.length (ix L j)).getD q' (0, 0)).1 = (i : Int)) ∨ Todo R L (j + 1) i
theorem Todo.open {L : List Int} {j i : Nat} (h : Todo R L j i) : Todo2 R L j 0 i := by
  obtain ⟨j', h1, h2, u, hu, e⟩ := h
  by_cases hj : j' = j
  · subst hj
    obtain ⟨q, hq, e2⟩ := List.mem_iff_getElem.1 hu
    exact .inl ⟨q, by omega, hq, by rw [List.getD_eq_getElem?_getD, List.getElem?_eq_getElem hq]; simp [e2, e]⟩
  · exact .inr ⟨j', by omega, h2, u, hu, e⟩
theorem Todo2.close {L : List Int} {j i : Nat} (h : Todo2 R L j (usesU R R.length (ix L j)).length i) : Todo R L (j + 1) i := by
  rcases h with ⟨q, h1, h2, _⟩ | h
  · omega
  · exact h
theorem Todo.none {L : List Int} {i : Nat} (h : Todo R L L.length i) : False := by
  obtain ⟨j, h1, h2, _⟩ := h
  omega
theorem Asked.pay {C l nd nd' : List Int} (hp : Paid R C nd) (hp' : Paid R (C ++ l) nd') (ha : Asked R (C ++ l) nd (fun _ => False)) : Asked R (C ++ l) nd' (Todo R l 0) := by
  intro i hi h0
  by_cases h1 : ix nd i ≤ 0
  · rcases ha i hi h1 with h2 | h2
    · exact .inl h2
    · exact h2.elim
  · right
    by_cases ht : Todo R l 0 i
    · exact ht
    · exfalso
      have e : lhs (C ++ l) (ixR R i) = lhs C (ixR R i) := lhsTo_same _ (fun k hk => by
        constructor
        · intro hm
          rcases List.mem_append.1 hm with hm | hm
          · exact hm
          · obtain ⟨j, hj, e2⟩ := List.mem_iff_getElem.1 hm
            exfalso
            refine ht ⟨j, Nat.zero_le _, hj, ((i : Int), wOf (ixR R i) k), ?_, rfl⟩
            have e3 : ix l j = ix (ixR R i).body k := by rw [← e2]; simp [ix, List.getD_eq_getElem?_getD, List.getElem?_eq_getElem hj]
            rw [e3]
            exact (usesU_mem _).2 ⟨i, k, hi, hk, rfl, rfl⟩
        · exact fun hm => List.mem_append_left _ hm)
      have := hp i hi
      have := hp' i hi
      omega
def posL (od : List Int) : Nat → List Int
  | 0 => []
  | k + 1 => if 0 < ix od k then posL od k ++ [(k : Int) + 1] else posL od k
theorem posL_mem (od : List Int) (x : Int) : ∀ k, x ∈ posL od k ↔ 1 ≤ x ∧ x ≤ k ∧ 0 < ix od (x - 1).toNat
  | 0 => by simp [posL]; omega
  | k + 1 => by
    have ih := posL_mem od x k
    unfold posL
    split
    · rename_i h
      simp only [List.mem_append, List.mem_singleton, ih]
      constructor
      · rintro (h1 | h1)
        · exact ⟨h1.1, by omega, h1.2.2⟩
        · refine ⟨by omega, by omega, ?_⟩
          have : (x - 1).toNat = k := by omega
          rw [this]; exact h
      · rintro ⟨h1, h2, h3⟩
        by_cases e : x = (k : Int) + 1
        · exact .inr e
        · exact .inl ⟨h1, by omega, h3⟩
    · rename_i h
      rw [ih]
      constructor
      · rintro ⟨h1, h2, h3⟩; exact ⟨h1, by omega, h3⟩
      · rintro ⟨h1, h2, h3⟩
        refine ⟨h1, ?_, h3⟩
        by_cases e : x = (k : Int) + 1
        · have : (x - 1).toNat = k := by omega
          rw [this] at h3; exact absurd h3 h
        · omega
theorem posL_len (od : List Int) : ∀ k, (posL od k).length ≤ k
  | 0 => by simp [posL]
  | k + 1 => by have := posL_len od k; unfold posL; split <;> simp <;> omega
theorem posL_range (od : List Int) (k : Nat) : ∀ x ∈ posL od k, 1 ≤ x ∧ x ≤ k := fun x hx => by have := (posL_mem od x k).1 hx; omega
theorem posL_sorted (od : List Int) : ∀ k, (posL od k).Pairwise (· < ·)
  | 0 => by simp [posL]
  | k + 1 => by
    have ih := posL_sorted od k
    unfold posL
    split
    · refine List.pairwise_append.2 ⟨ih, by simp, fun a ha b hb => ?_⟩
      simp only [List.mem_singleton] at hb
      have := (posL_range od k a ha).2
      omega
    · exact ih
theorem Lv.done {C od nd : List Int} (h : Lv n R C [] od nd) (hp : Paid R C nd) (ha : Asked R C nd (fun _ => False)) : IsLeast R (posL od n.toNat) := by
  have hC : ∀ x, x ∈ posL od n.toNat ↔ x ∈ C := fun x => by
    rw [posL_mem]
    constructor
    · rintro ⟨h1, h2, h3⟩
      have := ((h.out x h1 (by omega)).1).1 h3
      simpa using this
    · intro hx
      have hr := h.range x (by simpa using hx)
      exact ⟨hr.1, by omega, ((h.out x hr.1 hr.2).1).2 (by simpa using hx)⟩
  refine ⟨fun i hi hn x hx => ?_, fun x hx => h.der x (by simpa using (hC x).1 hx)⟩
  have e : lhs (posL od n.toNat) (ixR R i) = lhs C (ixR R i) := lhsTo_congr hC _ _
  rcases ha i hi (by have := hp i hi; omega) with h1 | h1
  · exact (hC x).2 (h1 x hx)
  · exact h1.elim
end
theorem made_list (z : Value) (n : Nat) : madeCells #[z] n = (List.replicate n z).toArray := by
  apply Array.ext
  · simp [size_madeCells]
  · intro i h1 h2
    simp [madeCells, Nat.mod_one]
set_option maxHeartbeats 1000000 in
theorem idx_def1 (v : Value) (l : List Int) (w : World) (h : Ints w v l) (g : Nat → Bool) 
    (hg : ∀ w', Below w.heap.size w w' → ∀ j, j < l.length → Calls Tryz.prog 174 #[.int .i64 (ix l j)] w' fun e w'' => e = .returned (.bool (g j)) ∧ Below w'.heap.size w' w'') :
    Calls Tryz.prog 83 #[v, .func (.func 174) #[] #[]] w fun e w' => ∃ r, e = .returned (.int .i64 r) ∧ IxP l.length g r ∧ Below w.heap.size w w' := by
  obtain ⟨a1, c1, rfl, -, hl1, -, hcell⟩ := h.form
  have HG := Lib.hid hg
  clear h hg
  go_enter Tryz.func83, Tryz.ntmps83
  go_wp2
  go_loopw [8] (fun i wx => IxR l.length g w i wx) (fun i _ => l.length - (intOf i).toNat)
  case atStart => exact ⟨0, by omega, rfl, fun j hj => absurd hj (Nat.not_lt_zero _), Below.refl _ _⟩
  case round =>
    obtain ⟨k, hk, rfl, hall, hb⟩ := hrel
    have HA := Lib.hid hall
    clear hall
    by_cases hlt : k < l.length
    · obtain ⟨b, off, rfl, hbl, hc⟩ := hcell (by omega)
      have hk1 := (bcell hb _ _ hbl).trans (hc k hlt)
      clear hc hcell
      cases g1 : g k with
      | true =>
        have HK : Hid (_ = true) := Lib.hid g1
        have HC := Lib.hid (HG.out _ hb k hlt)
        rw [g1] at HC
        clear g1
        go_wp2_with (go_at_call 174; refine (HC.out).mono ?_; rintro e w1 ⟨rfl, hb1⟩)
        go_ret
        exact ⟨_, rfl, .inr ⟨k, hlt, rfl, HK.out, HA.out⟩, bon hb hb1⟩
      | false =>
        have HN := Lib.hid (lt_succ_all HA.out g1)
        have HC := Lib.hid (HG.out _ hb k hlt)
        rw [g1] at HC
        clear g1
        go_wp2_with (go_at_call 174; refine (HC.out).mono ?_; rintro e w1 ⟨rfl, hb1⟩)
        first
          | (go_roundw
             case rel => (exact ⟨k + 1, by omega, by go_num, HN.out, bon hb hb1⟩)
             case measure => (simp [intOf]; omega))
          | (refine ⟨?_, ?_⟩
             · (exact ⟨k + 1, by omega, by go_num, HN.out, bon hb hb1⟩)
             · (simp [intOf]; omega))
    · have HN : Hid (∀ j, j < l.length → g j = false) := Lib.hid (fun j hj => HA.out j (by omega))
      go_wp2
      go_ret
      exact ⟨_, rfl, .inl ⟨rfl, HN.out⟩, hb⟩
set_option maxHeartbeats 1000000 in
theorem ctn_def1 (v : Value) (l : List Int) (w : World) (h : Ints w v l) (g : Nat → Bool) 
    (hg : ∀ w', Below w.heap.size w w' → ∀ j, j < l.length → Calls Tryz.prog 174 #[.int .i64 (ix l j)] w' fun e w'' => e = .returned (.bool (g j)) ∧ Below w'.heap.size w' w'') :
    Calls Tryz.prog 42 #[v, .func (.func 174) #[] #[]] w fun e w' => e = .returned (.bool (anyR l.length g)) ∧ Below w.heap.size w w' := by
  have HI := Lib.hid (idx_def1 v l w h g  hg)
  obtain ⟨a1, c1, rfl, -⟩ := h.form
  clear h hg
  go_enter Tryz.func42, Tryz.ntmps42
  go_wp2_with (go_at_call 83; refine (HI.out).mono ?_; rintro e w1 ⟨r, rfl, hr, hb1⟩; have HR := Lib.hid hr; clear hr)
  go_ret
  exact ⟨ret_bool HR.out.any, hb1⟩
theorem neg_any (w : World) (x : Int) : Calls Tryz.prog 174 #[.int .i64 x] w fun e w' => e = .returned (.bool (decide (x < 0))) ∧ w = w' := by
  by_cases h : x < 0
  · go_enter Tryz.func174, Tryz.ntmps174
    go_wp2
    go_ret
    exact ⟨ret_bool (decide_eq_true h).symm, rfl⟩
  · go_enter Tryz.func174, Tryz.ntmps174
    go_wp2
    go_ret
    exact ⟨ret_bool (decide_eq_false (by omega)).symm, rfl⟩
set_option maxHeartbeats 1000000 in
theorem idxR_def (v : Value) (l : List GR) (w : World) (h : RulesIs w v l) (g : Nat → Bool) (cap : Value)
    (hg : ∀ w', Below w.heap.size w w' → ∀ j, j < l.length → ∀ u, RuleIs w' u (ixR l j) → Calls Tryz.prog 173 #[u, cap] w' fun e w'' => e = .returned (.bool (g j)) ∧ Below w'.heap.size w' w'') :
    Calls Tryz.prog 97 #[v, .func (.func 173) #[] #[cap]] w fun e w' => ∃ r, e = .returned (.int .i64 r) ∧ IxP l.length g r ∧ Below w.heap.size w w' := by
  obtain ⟨a1, c1, rfl, -, hl1, -, hcell⟩ := h.form
  have HG := Lib.hid hg
  clear h hg
  go_enter Tryz.func97, Tryz.ntmps97
  go_wp2
  go_loopw [8] (fun i wx => IxR l.length g w i wx) (fun i _ => l.length - (intOf i).toNat)
  case atStart => exact ⟨0, by omega, rfl, fun j hj => absurd hj (Nat.not_lt_zero _), Below.refl _ _⟩
  case round =>
    obtain ⟨k, hk, rfl, hall, hb⟩ := hrel
    have HA := Lib.hid hall
    clear hall
    by_cases hlt : k < l.length
    · obtain ⟨b, off, rfl, hbl, hc⟩ := hcell (by omega)
      obtain ⟨vh, vb, vw, ⟨k0, k1, k2, k3, k4, k5⟩, hsl⟩ := hc k hlt
      have hbr := hsl.below hb
      have hk0 := (bcell hb _ _ hbl).trans k0
      have hk1 := (bcell hb _ _ hbl).trans k1
      have hk2 := (bcell hb _ _ hbl).trans k2
      have hk3 := (bcell hb _ _ hbl).trans k3
      have hk4 := (bcell hb _ _ hbl).trans k4
      have hk5 := (bcell hb _ _ hbl).trans k5
      have HRU : Hid (RuleIs wr (.agg #[.bool (ixR l k).choice, vh, .bool (ixR l k).sum, .int .i64 (ixR l k).bound, vb, vw]) (ixR l k)) := Lib.hid ⟨vh, vb, vw, rfl, hbr⟩
      clear hc hcell k0 k1 k2 k3 k4 k5 hsl hbr
      cases g1 : g k with
      | true =>
        have HK : Hid (_ = true) := Lib.hid g1
        have HC := Lib.hid (HG.out _ hb k hlt _ HRU.out)
        rw [g1] at HC
        clear g1
        go_wp2_with (go_at_call 173; refine (HC.out).mono ?_; rintro e w1 ⟨rfl, hb1⟩)
        go_ret
        exact ⟨_, rfl, .inr ⟨k, hlt, rfl, HK.out, HA.out⟩, bon hb hb1⟩
      | false =>
        have HN := Lib.hid (lt_succ_all HA.out g1)
        have HC := Lib.hid (HG.out _ hb k hlt _ HRU.out)
        rw [g1] at HC
        clear g1
        go_wp2_with (go_at_call 173; refine (HC.out).mono ?_; rintro e w1 ⟨rfl, hb1⟩)
        first
          | (go_roundw
             case rel => (exact ⟨k + 1, by omega, by go_num, HN.out, bon hb hb1⟩)
             case measure => (simp [intOf]; omega))
          | (refine ⟨?_, ?_⟩
             · (exact ⟨k + 1, by omega, by go_num, HN.out, bon hb hb1⟩)
             · (simp [intOf]; omega))
    · have HN : Hid (∀ j, j < l.length → g j = false) := Lib.hid (fun j hj => HA.out j (by omega))
      go_wp2
      go_ret
      exact ⟨_, rfl, .inl ⟨rfl, HN.out⟩, hb⟩
set_option maxHeartbeats 1000000 in
theorem ctnR_def (v : Value) (l : List GR) (w : World) (h : RulesIs w v l) (g : Nat → Bool) (cap : Value)
    (hg : ∀ w', Below w.heap.size w w' → ∀ j, j < l.length → ∀ u, RuleIs w' u (ixR l j) → Calls Tryz.prog 173 #[u, cap] w' fun e w'' => e = .returned (.bool (g j)) ∧ Below w'.heap.size w' w'') :
    Calls Tryz.prog 67 #[v, .func (.func 173) #[] #[cap]] w fun e w' => e = .returned (.bool (anyR l.length g)) ∧ Below w.heap.size w w' := by
  have HI := Lib.hid (idxR_def v l w h g cap hg)
  obtain ⟨a1, c1, rfl, -⟩ := h.form
  clear h hg
  go_enter Tryz.func67, Tryz.ntmps67
  go_wp2_with (go_at_call 97; refine (HI.out).mono ?_; rintro e w1 ⟨r, rfl, hr, hb1⟩; have HR := Lib.hid hr; clear hr)
  go_ret
  exact ⟨ret_bool HR.out.any, hb1⟩
def defAt (n : Int) (r : GR) : Bool := decide (ruleE r n = 0) && !r.choice && decide (r.head.length ≤ 1) && !anyR r.body.length (fun j => decide (ix r.body j < 0))
set_option maxHeartbeats 1000000 in
theorem defAt_any (v : Value) (r : GR) (n : Int) (cb : Nat) (w : World) (h : RuleIs w v r) (hn : Blk w cb [.int .i64 n] 3) :
    Calls Tryz.prog 173 #[v, .pointer (some ⟨cb, 0, none⟩)] w fun e w' => e = .returned (.bool (!defAt n r)) ∧ Below w.heap.size w w' := by
  obtain ⟨vh, vb, vw, rfl, hsl⟩ := h
  have hal := bal (Below.refl w.heap.size w) (.cells #[.bool r.choice, vh, .bool r.sum, .int .i64 r.bound, vb, vw] 55)
  obtain ⟨a1, c1, rfl, -, hl1, -, -⟩ := hsl.head.form
  obtain ⟨a2, c2, rfl, -, hl2, -, -⟩ := hsl.body.form
  obtain ⟨a3, c3, rfl, -, hl3, -, -⟩ := hsl.wts.form
  have HR : Hid (RuleIs (w.alloc (.cells #[.bool r.choice, .slice a1 r.head.length c1, .bool r.sum, .int .i64 r.bound, .slice a2 r.body.length c2, .slice a3 r.w.length c3] 55)) (.agg #[.bool r.choice, .slice a1 r.head.length c1, .bool r.sum, .int .i64 r.bound, .slice a2 r.body.length c2, .slice a3 r.w.length c3]) r) := Lib.hid ⟨_, _, _, rfl, hsl.below hal⟩
  have HB := Lib.hid (hsl.body.below hal)
  have HBK := Lib.hid (Blk.new w [.bool r.choice, .slice a1 r.head.length c1, .bool r.sum, .int .i64 r.bound, .slice a2 r.body.length c2, .slice a3 r.w.length c3] 55)
  have hcn := hn.cell 0
  have hcz := hn.lt
  have HU : Hid (defAt n r = (decide (ruleE r n = 0) && !r.choice && decide (r.head.length ≤ 1) && !anyR r.body.length (fun j => decide (ix r.body j < 0)))) := Lib.hid rfl
  clear hsl hn
  by_cases h1 : ruleE r n = 0
  · have h1' : (ruleE r n != 0) = false := by simp [h1]
    have H1 := Lib.hid h1
    cases h2 : r.choice with
    | true =>
      have HF : Hid (defAt n r = false) := Lib.hid (by rw [HU.out, h2]; simp)
      rw [h2] at HR HBK HB hal
      clear h1
      go_enter Tryz.func173, Tryz.ntmps173
      go_wp2_with (first | (go_at_call 42; (with_reducible refine (ctn_def1 _ _ _ (HB.out.below hb1) (fun j => decide (ix r.body j < 0)) (fun w' _ j _ => (neg_any w' _).mono fun e w'' ⟨e1, e2⟩ => ⟨e1, e2 ▸ Below.refl _ _⟩)).mono ?_); rintro e w2 ⟨rfl, hb2⟩) | (go_at_call 60; (with_reducible refine (rule_any _ r n _ HR.out).mono ?_); rintro e w1 ⟨rfl, hb1⟩; have hc1 := bcell hb1; have kk := fun o => (hc1 w.heap.size o (by simp)).trans (HBK.out.cell o)))
      go_ret
      exact ⟨ret_bool (by rw [HF.out]; rfl), bon hal hb1⟩
    | false =>
      rw [h2] at HR HBK HB hal
      by_cases h3 : r.head.length ≤ 1
      · have HF : Hid (defAt n r = !anyR r.body.length (fun j => decide (ix r.body j < 0))) := Lib.hid (by rw [HU.out, h2, decide_eq_true h1, decide_eq_true h3]; simp)
        clear h1
        go_enter Tryz.func173, Tryz.ntmps173
        go_wp2_with (first | (go_at_call 42; (with_reducible refine (ctn_def1 _ _ _ (HB.out.below hb1) (fun j => decide (ix r.body j < 0)) (fun w' _ j _ => (neg_any w' _).mono fun e w'' ⟨e1, e2⟩ => ⟨e1, e2 ▸ Below.refl _ _⟩)).mono ?_); rintro e w2 ⟨rfl, hb2⟩) | (go_at_call 60; (with_reducible refine (rule_any _ r n _ HR.out).mono ?_); rintro e w1 ⟨rfl, hb1⟩; have hc1 := bcell hb1; have kk := fun o => (hc1 w.heap.size o (by simp)).trans (HBK.out.cell o)))
        go_ret
        exact ⟨ret_bool (by rw [HF.out, Bool.not_not, decide_eq_false (by omega), Bool.false_or]), bon (bon hal hb1) hb2⟩
      · have HF : Hid (defAt n r = false) := Lib.hid (by rw [HU.out, decide_eq_false h3]; simp)
        clear h1
        go_enter Tryz.func173, Tryz.ntmps173
        go_wp2_with (first | (go_at_call 42; (with_reducible refine (ctn_def1 _ _ _ (HB.out.below hb1) (fun j => decide (ix r.body j < 0)) (fun w' _ j _ => (neg_any w' _).mono fun e w'' ⟨e1, e2⟩ => ⟨e1, e2 ▸ Below.refl _ _⟩)).mono ?_); rintro e w2 ⟨rfl, hb2⟩) | (go_at_call 60; (with_reducible refine (rule_any _ r n _ HR.out).mono ?_); rintro e w1 ⟨rfl, hb1⟩; have hc1 := bcell hb1; have kk := fun o => (hc1 w.heap.size o (by simp)).trans (HBK.out.cell o)))
        go_ret
        exact ⟨ret_bool (by rw [HF.out]; rfl), bon hal hb1⟩
  · have h1' : (ruleE r n != 0) = true := by simp [h1]
    have HF : Hid (defAt n r = false) := Lib.hid (by rw [HU.out, decide_eq_false h1]; simp)
    clear h1
    go_enter Tryz.func173, Tryz.ntmps173
    go_wp2_with (first | (go_at_call 42; (with_reducible refine (ctn_def1 _ _ _ (HB.out.below hb1) (fun j => decide (ix r.body j < 0)) (fun w' _ j _ => (neg_any w' _).mono fun e w'' ⟨e1, e2⟩ => ⟨e1, e2 ▸ Below.refl _ _⟩)).mono ?_); rintro e w2 ⟨rfl, hb2⟩) | (go_at_call 60; (with_reducible refine (rule_any _ r n _ HR.out).mono ?_); rintro e w1 ⟨rfl, hb1⟩; have hc1 := bcell hb1; have kk := fun o => (hc1 w.heap.size o (by simp)).trans (HBK.out.cell o)))
    go_ret
    exact ⟨ret_bool (by rw [HF.out]; rfl), bon hal hb1⟩
def definiteB (n : Int) (R : List GR) : Bool := decide (0 ≤ n ∧ n ≤ 4000 ∧ R.length ≤ 40000) && allR R.length (fun i => defAt n (ixR R i))
theorem definite_neg (n : Int) (R : List GR) (h : 0 ≤ n ∧ n ≤ 4000 ∧ R.length ≤ 40000) : (!anyR R.length fun i => !defAt n (ixR R i)) = definiteB n R := by
  unfold definiteB anyR allR
  rw [decide_eq_true h, Bool.true_and]
  induction List.range R.length with
  | nil => rfl
  | cons x l ih => simp only [List.any_cons, List.all_cons, Bool.not_or, ih, Bool.not_not]
set_option maxHeartbeats 1000000 in
theorem definite_any (v : Value) (R : List GR) (n : Int) (w : World) (h : RulesIs w v R) :
    Calls Tryz.prog 149 #[.int .i64 n, v] w fun e w' => e = .returned (.bool (definiteB n R)) ∧ Below w.heap.size w w' := by
  have hal := bal (Below.refl w.heap.size w) (.cells #[.int .i64 n] 3)
  obtain ⟨a1, c1, rfl, -, hl1, -⟩ := h.form
  have HR := Lib.hid (h.below hal)
  have HBK := Lib.hid (Blk.new w [.int .i64 n] 3)
  clear h
  by_cases h1 : n < 0
  · have HF : Hid (definiteB n R = false) := Lib.hid (by unfold definiteB; rw [decide_eq_false (by omega)]; rfl)
    go_enter Tryz.func149, Tryz.ntmps149
    go_wp2
    go_ret
    exact ⟨ret_bool HF.out.symm, hal⟩
  · by_cases h2 : 4000 < n
    · have HF : Hid (definiteB n R = false) := Lib.hid (by unfold definiteB; rw [decide_eq_false (by omega)]; rfl)
      go_enter Tryz.func149, Tryz.ntmps149
      go_wp2
      go_ret
      exact ⟨ret_bool HF.out.symm, hal⟩
    · by_cases h3 : (40000 : Int) < R.length
      · have HF : Hid (definiteB n R = false) := Lib.hid (by unfold definiteB; rw [decide_eq_false (by omega)]; rfl)
        go_enter Tryz.func149, Tryz.ntmps149
        go_wp2
        go_ret
        exact ⟨ret_bool HF.out.symm, hal⟩
      · have HF := Lib.hid (definite_neg n R (by omega))
        go_enter Tryz.func149, Tryz.ntmps149
        go_wp2_with (go_at_call 67; (with_reducible refine (ctnR_def _ R _ HR.out (fun i => !defAt n (ixR R i)) _ (fun w' hb j _ u hu => defAt_any u _ n _ w' hu (HBK.out.below hb))).mono ?_); rintro e w1 ⟨rfl, hb1⟩)
        go_ret
        exact ⟨ret_bool HF.out, bon hal hb1⟩
theorem lits_le {l : List Int} {n : Int} (h : orderedB l n = true) (hn : 0 ≤ n) : (l.length : Int) ≤ 2 * n + 2 := by
  have hp : (l.map litKey).Pairwise (· < ·) := by
    rw [List.pairwise_iff_getElem]
    intro i j hi hj hij
    simp only [List.length_map] at hi hj
    have := ordered_lt h j hj i hij
    simpa [ix, List.getD_eq_getElem?_getD, List.getElem?_eq_getElem hi, List.getElem?_eq_getElem hj] using this
  have := lt_length (l.map litKey) 0 (2 * n + 2) hp (fun x hx => by
    obtain ⟨y, hy, rfl⟩ := List.mem_map.1 hx
    have := ordered_lit h hy
    unfold litKey
    split <;> omega) (by omega)
  simpa using this
theorem definiteB_spec {n : Int} {R : List GR} (h : definiteB n R = true) : DefR n R := by
  unfold definiteB at h
  simp only [Bool.and_eq_true, decide_eq_true_eq] at h
  obtain ⟨⟨h1, h2, h3⟩, h4⟩ := h
  have h5 := fun i (hi : i < R.length) => allR_get h4 i hi
  have h6 : ∀ i, i < R.length → ruleE (ixR R i) n = 0 ∧ (ixR R i).head.length ≤ 1 ∧ ∀ j, j < (ixR R i).body.length → 0 ≤ ix (ixR R i).body j := fun i hi => by
    have := h5 i hi
    simp only [defAt, Bool.and_eq_true, decide_eq_true_eq, Bool.not_eq_true'] at this
    obtain ⟨⟨⟨a1, a2⟩, a3⟩, a4⟩ := this
    refine ⟨a1, a3, fun j hj => ?_⟩
    by_cases h0 : ix (ixR R i).body j < 0
    · rw [anyR_true j hj (by simp [h0])] at a4; cases a4
    · omega
  have h7 : ∀ i, i < R.length → increasingB (ixR R i).head n = true ∧ orderedB (ixR R i).body n = true ∧ ((ixR R i).sum = true → weightsB (ixR R i).w (ixR R i).body.length = true ∧ 0 ≤ (ixR R i).bound ∧ (ixR R i).bound ≤ 1048576) := fun i hi => by
    have h8 := (h6 i hi).1
    unfold ruleE at h8
    grind
  refine ⟨⟨h1, h2⟩, h3, fun i hi => ⟨(h6 i hi).2.1, fun x hx => ?_⟩, fun i hi => ⟨fun k hk => ?_, ?_⟩, fun i hi hs => ?_, fun i hi hs => ((h7 i hi).2.2 hs).2⟩
  · have h8 := (h7 i hi).1
    have h9 := ordered_lit (increasing_ordered h8) hx
    unfold increasingB at h8
    simp only [Bool.and_eq_true] at h8
    obtain ⟨k, hk, rfl⟩ : ∃ k, k < (ixR R i).head.length ∧ x = ix (ixR R i).head k := by
      obtain ⟨k, hk, e⟩ := List.mem_iff_getElem.1 hx
      exact ⟨k, hk, by simp [ix, List.getD_eq_getElem?_getD, List.getElem?_eq_getElem hk, e]⟩
    have := allR_get h8.2 k hk
    simp only [decide_eq_true_eq] at this
    omega
  · have h8 := (h6 i hi).2.2 k hk
    have h9 := ordered_lit (h7 i hi).2.1 (show ix (ixR R i).body k ∈ (ixR R i).body from by simp [ix, List.getD_eq_getElem?_getD, List.getElem?_eq_getElem hk])
    omega
  · have := lits_le (h7 i hi).2.1 h1
    omega
  · have h8 := ((h7 i hi).2.2 hs).1
    unfold weightsB at h8
    simp only [Bool.and_eq_true, decide_eq_true_eq] at h8
    refine ⟨by omega, fun k hk => ?_⟩
    have := allR_get h8.1 k hk
    simpa using this
end Go.Proofs.YtjodocheiejkeaaGreatDoor
