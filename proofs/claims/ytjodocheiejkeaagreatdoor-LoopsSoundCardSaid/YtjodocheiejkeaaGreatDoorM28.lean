/- My texts PbL, PbV, CpP, Pb2, Pb4, Vars, CpS, StI, merged. -/
import Derived.Test.YtjodocheiejkeaaGreatDoorM04
import Derived.Test.YtjodocheiejkeaaGreatDoorM00
import Derived.Test.YtjodocheiejkeaaGreatDoorProg
import Derived.WalkKit
import Derived.Lib.Hide
import Derived.Deep.QuietTactic
import Derived.BigQuiet
import Derived.Test.YtjodocheiejkeaaGreatDoorM03
import Derived.Lib.Bytealg
import Derived.MapKept
import Derived.Maps.OwnSet
import Derived.Maps.OwnOps
import Derived.WalkSpells
import Derived.Lib.SliceRun
import Derived.Test.YtjodocheiejkeaaGreatDoorM02
import Derived.Test.YtjodocheiejkeaaGreatDoorM01
import Derived.Deep.AppendLies
import Derived.Deep.DeepCutAuto
import Derived.Test.YtjodocheiejkeaaGreatDoorM05
import Derived.Test.YtjodocheiejkeaaGreatDoorM07
import Derived.RangeFuncNested
import Derived.RangeFuncBound
import Derived.RangeFuncCalls
import Derived.RangeFuncLeaves
import Derived.OwnWalkIn
import Derived.TacticsInMore
import Derived.LoopNIn
import Derived.LoopIn
import Derived.Stop.RegionWithIn
import Derived.Shelf.Abstract
import Derived.Test.YtjodocheiejkeaaGreatDoorM08
import Derived.Sort.QuietThIn
import Derived.Test.YtjodocheiejkeaaGreatDoorM11
import Derived.Test.YtjodocheiejkeaaGreatDoorM06
import Derived.Laws.EntriesVeiled
import Derived.Test.YtjodocheiejkeaaGreatDoorM12
import Derived.Test.YtjodocheiejkeaaGreatDoorM10
import Derived.Test.YtjodocheiejkeaaGreatDoorM09
import Derived.Maps.RangeWalk
import Derived.Lib.SlicesCompact
import Derived.Shelf.Sort.Plain
import Derived.Shelf.Slices.CompactI
import Derived.Shelf.Slices.In.SortNone
import Derived.Shelf.Strconv.Itoa3
import Derived.Shelf.Strings.BuilderK
import Derived.Sort.OwnSortedInts
import Derived.RangeFuncBox
import Derived.Maps.OwnIn
import Derived.Lib.RowBridge
import Derived.Deep.OwnRows
import Derived.Deep.AppendSrc
import Derived.Deep.RegionWith
import Derived.Test.YtjodocheiejkeaaGreatDoorM17
import Derived.Test.YtjodocheiejkeaaGreatDoorM16
import Derived.Test.YtjodocheiejkeaaGreatDoorM15
import Derived.Test.YtjodocheiejkeaaGreatDoorM14
import Derived.Test.YtjodocheiejkeaaGreatDoorM13
import Derived.Deep.LoopGhost
import Derived.Deep.DrawnRows
import Derived.Deep.DeepMust
import Derived.ProofKit
import Derived.OpenShut
import Derived.ChangeArms
import Derived.SizedLaws

namespace Go.Proofs.YtjodocheiejkeaaGreatDoor
def sumLK (t : Int → Bool) (L K : List Int) : Nat → Int
  | 0 => 0
  | i + 1 => sumLK t L K i + (if t (ix L i) then ix K i else 0)
def Tot (t : Int → Bool) : Prop := ∀ l, l ≠ 0 → t (-l) = !t l
theorem sumW_snoc (t : Int → Bool) : ∀ (l : List (Int × Int)) (x : Int × Int), sumW t (l ++ [x]) = sumW t l + if t x.1 then x.2 else 0
  | [], x => by simp [sumW]
  | y :: l, x => by simp only [List.cons_append, sumW, sumW_snoc t l x]; omega
theorem sumI_congr {f g : Int → Int} : ∀ {V : List Int}, (∀ v ∈ V, f v = g v) → sumI f V = sumI g V
  | [], _ => rfl
  | v :: V, h => by
    simp only [sumI]
    rw [h v (.head _), sumI_congr fun u hu => h u (.tail _ hu)]
theorem sumI_add (f g : Int → Int) : ∀ V : List Int, sumI (fun v => f v + g v) V = sumI f V + sumI g V
  | [] => rfl
  | v :: V => by simp only [sumI, sumI_add f g V]; omega
theorem sumI_zero : ∀ V : List Int, sumI (fun _ => 0) V = 0
  | [] => rfl
  | v :: V => by simp only [sumI, sumI_zero V]; omega
theorem sumI_delta (d v0 : Int) : ∀ V : List Int, V.Nodup → v0 ∈ V → sumI (fun v => if v = v0 then d else 0) V = d
  | [], _, h => by cases h
  | v :: V, hn, h => by
    obtain ⟨h1, h2⟩ := List.nodup_cons.1 hn
    simp only [sumI]
    by_cases e : v = v0
    · subst e
      rw [if_pos rfl, sumI_congr (g := fun _ => 0) fun u hu => if_neg (fun e' : u = v => h1 (e' ▸ hu)), sumI_zero]
      omega
    · rw [if_neg e, sumI_delta d v0 V h2 ((List.mem_cons.1 h).resolve_left fun e' => e e'.symm)]
      omega
theorem sum_vars {t : Int → Bool} (ht : Tot t) {L K : List Int} {V : List Int} (hn : V.Nodup) (hpos : ∀ v ∈ V, 0 < v) :
    ∀ (i : Nat), (∀ j, j < i → ix L j ≠ 0 ∧ ((ix L j).natAbs : Int) ∈ V) →
      sumLK t L K i = negTo L K i + sumI (fun v => if t v then byTo L K v i else 0) V
  | 0, _ => by
    simp only [sumLK, negTo, byTo]
    rw [sumI_congr (g := fun _ => 0) fun v _ => by simp, sumI_zero]; rfl
  | i + 1, h => by
    have ih := sum_vars (K := K) ht hn hpos i fun j hj => h j (by omega)
    obtain ⟨h1, h2⟩ := h i (by omega)
    have hd := sumI_delta (if t ((ix L i).natAbs : Int) then (if 0 < ix L i then ix K i else -ix K i) else 0) ((ix L i).natAbs : Int) V hn h2
    have hc : sumI (fun v => if t v then byTo L K v (i + 1) else 0) V = sumI (fun v => (if t v then byTo L K v i else 0) + (if v = ((ix L i).natAbs : Int) then (if t ((ix L i).natAbs : Int) then (if 0 < ix L i then ix K i else -ix K i) else 0) else 0)) V := by
      refine sumI_congr fun v hv => ?_
      have hv0 := hpos v hv
      show (if t v then byTo L K v (i + 1) else 0) = _
      rw [byTo_succ]
      by_cases e : v = ((ix L i).natAbs : Int)
      · subst e
        rw [if_pos rfl]
        cases t ((ix L i).natAbs : Int) with
        | false => simp
        | true =>
          simp only [if_true]
          by_cases hp : 0 < ix L i
          · rw [if_pos (show ix L i = ((ix L i).natAbs : Int) by omega), if_pos hp]
          · rw [if_neg (show ¬ ix L i = ((ix L i).natAbs : Int) by omega), if_pos (show ix L i = -((ix L i).natAbs : Int) by omega), if_neg hp]
      · rw [if_neg e, if_neg (show ¬ ix L i = v by omega), if_neg (show ¬ ix L i = -v by omega)]
        simp
    rw [hc, sumI_add, hd]
    unfold sumLK negTo
    rw [ih]
    by_cases hp : 0 < ix L i
    · have e : ((ix L i).natAbs : Int) = ix L i := by omega
      rw [e, if_pos hp, if_neg (show ¬ ix L i < 0 by omega)]
      omega
    · have e : ((ix L i).natAbs : Int) = -ix L i := by omega
      have ht2 := ht (ix L i) h1
      rw [e, if_neg hp, if_pos (show ix L i < 0 by omega), ht2]
      cases t (ix L i) <;> simp <;> omega
theorem keys_pos {L : List Int} (h : ∀ j, j < L.length → ix L j ≠ 0) : ∀ v ∈ keysOf L, 0 < v := by
  intro v hv
  obtain ⟨l, hl, rfl⟩ := mem_keys.1 hv
  obtain ⟨j, hj, rfl⟩ := List.mem_iff_getElem.1 hl
  have := h j hj
  have e : ix L j = L[j] := by simp [ix, List.getD_eq_getElem?_getD, List.getElem?_eq_getElem hj]
  rw [e] at this
  omega
end Go.Proofs.YtjodocheiejkeaaGreatDoor
namespace Go.Proofs.YtjodocheiejkeaaGreatDoor
theorem ones_ix {n j : Nat} (hj : j < n) : ix (ones n) j = 1 := by simp [ix, ones, List.getD_eq_getElem?_getD, hj]
theorem sumLK_ones {t : Int → Bool} {S : List Int} {n : Nat} : ∀ (i : Nat), i ≤ n → i ≤ S.length → 0 ≤ sumLK t S (ones n) i ∧ (1 ≤ sumLK t S (ones n) i ↔ ∃ j, j < i ∧ t (ix S j) = true)
  | 0, _, _ => by simp [sumLK]
  | i + 1, h, h' => by
    obtain ⟨i1, i2⟩ := sumLK_ones (t := t) (S := S) (n := n) i (by omega) (by omega)
    unfold sumLK
    rw [ones_ix (show i < n by omega)]
    cases hT : t (ix S i) with
    | true => exact ⟨by simp; omega, fun _ => ⟨i, by omega, hT⟩, fun _ => by simp; omega⟩
    | false =>
      refine ⟨by simp; omega, fun h => ?_, fun ⟨j, hj, hj2⟩ => ?_⟩
      · obtain ⟨j, hj, hj2⟩ := i2.1 (by simp at h; exact h)
        exact ⟨j, by omega, hj2⟩
      · have : j ≠ i := by rintro rfl; rw [hT] at hj2; cases hj2
        have := i2.2 ⟨j, by omega, hj2⟩
        simp; omega
theorem byTo_ones {S : List Int} (hs : S.Nodup) {v : Int} (hv : 0 < v) : ∀ (i : Nat), i ≤ S.length → byTo S (ones S.length) v i = (if v ∈ S.take i then 1 else 0) - (if -v ∈ S.take i then 1 else 0)
  | 0, _ => by simp [byTo]
  | i + 1, h => by
    have ih := byTo_ones hs hv i (by omega)
    have hi : i < S.length := by omega
    have e := List.take_succ_eq_append_getElem hi
    have hni : S[i] ∉ S.take i := by
      intro hm
      have hnd : (S.take (i + 1)).Nodup := hs.sublist (List.take_sublist _ _)
      rw [e] at hnd
      exact (List.nodup_append.1 hnd).2.2 _ hm _ (List.mem_singleton.2 rfl) rfl
    unfold byTo
    rw [ih, ones_ix hi, ix_get hi, e]
    simp only [List.mem_append, List.mem_singleton]
    by_cases e1 : S[i] = v
    · have hv1 : v ∉ S.take i := e1 ▸ hni
      have c1 : (v ∈ S.take i ∨ v = S[i]) ↔ True := ⟨fun _ => trivial, fun _ => .inr e1.symm⟩
      have c2 : (-v ∈ S.take i ∨ -v = S[i]) ↔ -v ∈ S.take i := ⟨fun h => h.resolve_right (by omega), .inl⟩
      rw [if_pos e1]
      simp only [c1, c2, if_true, if_neg hv1]
      omega
    · rw [if_neg e1]
      have hv1 : (v ∈ S.take i ∨ v = S[i]) ↔ v ∈ S.take i := ⟨fun h => h.resolve_right fun h => e1 h.symm, .inl⟩
      simp only [hv1]
      by_cases e2 : S[i] = -v
      · have hv2 : -v ∉ S.take i := e2 ▸ hni
        rw [if_pos e2]
        have c2 : (-v ∈ S.take i ∨ -v = S[i]) ↔ True := ⟨fun _ => trivial, fun _ => .inr e2.symm⟩
        simp only [c2, if_true, if_neg hv2]
        omega
      · rw [if_neg e2]
        have hv2 : (-v ∈ S.take i ∨ -v = S[i]) ↔ -v ∈ S.take i := ⟨fun h => h.resolve_right fun h => e2 h.symm, .inl⟩
        simp only [hv2]
        omega
theorem byTo_set {S : List Int} (hs : S.Nodup) {v : Int} (hv : 0 < v) : byTo S (ones S.length) v S.length = (if v ∈ S then 1 else 0) - (if -v ∈ S then 1 else 0) := by
  rw [byTo_ones hs hv _ (Nat.le_refl _), List.take_length]
def varsorted (S : List Int) : List Int := (keysOf S).map fun v => if v ∈ S then v else -v
def clash (L : List Int) : Prop := ∃ v ∈ L, -v ∈ L
theorem clauseP_form {L : List Int} (hl : ∀ l ∈ L, plitB l = true) (hlen : (setL L).length ≤ 65536) :
    (clash L → clauseP L = (⟨[], [], 0⟩, 0)) ∧ (L = [] → clauseP L = (⟨[], [], 1⟩, 0)) ∧
    (¬ clash L → L ≠ [] → clauseP L = (⟨varsorted (setL L), ones (keysOf (setL L)).length, 1⟩, 0)) := by
  have hl' : ∀ l ∈ setL L, plitB l = true := fun l h => hl l (mem_setL.1 h)
  have hnd := sorted_nodup (setL_sorted L)
  have hnz : ∀ j, j < (setL L).length → ix (setL L) j ≠ 0 := fun j hj => by
    have := hl' _ (mem_ix_iff.2 ⟨j, hj, rfl⟩)
    unfold plitB at this
    rw [decide_eq_true_eq] at this
    exact this.1
  have hkp := keys_pos hnz
  -- the number of clashes
  let t : Int → Bool := fun l => if 0 < l then !decide (l ∈ setL L) else decide (-l ∈ setL L)
  have ht : Tot t := fun l h0 => by
    show (if 0 < -l then !decide (-l ∈ setL L) else decide (- -l ∈ setL L)) = !(if 0 < l then !decide (l ∈ setL L) else decide (-l ∈ setL L))
    by_cases h : 0 < l
    · rw [if_neg (by omega), if_pos h, Int.neg_neg, Bool.not_not]
    · rw [if_pos (by omega), if_neg h]
  have hsum := sum_vars (K := ones (setL L).length) ht (sorted_nodup (keys_sorted (setL L))) hkp (setL L).length fun j hj => ⟨hnz j hj, mem_keys.2 ⟨ix (setL L) j, mem_ix_iff.2 ⟨j, hj, rfl⟩, rfl⟩⟩
  have hlow : sumI (fun v => lowI (byTo (setL L) (ones (setL L).length) v (setL L).length)) (keysOf (setL L)) = sumI (fun v => if t v then byTo (setL L) (ones (setL L).length) v (setL L).length else 0) (keysOf (setL L)) := by
    refine sumI_congr fun v hv => ?_
    have h0 := hkp v hv
    show lowI _ = if (if 0 < v then !decide (v ∈ setL L) else decide (-v ∈ setL L)) then _ else (0 : Int)
    rw [byTo_set hnd h0, if_pos h0]
    by_cases h1 : v ∈ setL L <;> by_cases h2 : -v ∈ setL L <;> simp [h1, h2, lowI]
  have hnb := sumLK_ones (t := t) (S := setL L) (n := (setL L).length) _ (Nat.le_refl _) (Nat.le_refl _)
  have hcl : (∃ j, j < (setL L).length ∧ t (ix (setL L) j) = true) ↔ clash L := by
    constructor
    · rintro ⟨j, hj, h⟩
      have hm : ix (setL L) j ∈ setL L := mem_ix_iff.2 ⟨j, hj, rfl⟩
      have h' : (if 0 < ix (setL L) j then !decide (ix (setL L) j ∈ setL L) else decide (-ix (setL L) j ∈ setL L)) = true := h
      split at h'
      · simp [hm] at h'
      · exact ⟨_, mem_setL.1 hm, mem_setL.1 (by simpa using h')⟩
    · rintro ⟨v, hv, hv2⟩
      have h0 : v ≠ 0 := by have := hl v hv; unfold plitB at this; rw [decide_eq_true_eq] at this; exact this.1
      by_cases hp : 0 < v
      · obtain ⟨j, hj, e⟩ := mem_ix_iff.1 (mem_setL.2 hv2)
        refine ⟨j, hj, ?_⟩
        show (if 0 < ix (setL L) j then !decide (ix (setL L) j ∈ setL L) else decide (-ix (setL L) j ∈ setL L)) = true
        rw [e, if_neg (by omega), Int.neg_neg]
        exact decide_eq_true (mem_setL.2 hv)
      · obtain ⟨j, hj, e⟩ := mem_ix_iff.1 (mem_setL.2 hv)
        refine ⟨j, hj, ?_⟩
        show (if 0 < ix (setL L) j then !decide (ix (setL L) j ∈ setL L) else decide (-ix (setL L) j ∈ setL L)) = true
        rw [e, if_neg (by omega)]
        exact decide_eq_true (mem_setL.2 hv2)
  rw [hcl] at hnb
  have hP : clauseP L = normC (fun v => byTo (setL L) (ones (setL L).length) v (setL L).length) ((keysOf (setL L)).filter fun v => byTo (setL L) (ones (setL L).length) v (setL L).length != 0) (1 - sumLK t (setL L) (ones (setL L).length) (setL L).length) := by
    unfold clauseP normP
    rw [if_neg (by simp [ones]; omega), if_neg (by
      rw [allR_true (fun j hj => by
        unfold pokAt
        rw [hl' _ (mem_ix_iff.2 ⟨j, hj, rfl⟩), ones_ix hj]; decide)]
      simp), hsum, hlow]
    congr 1; omega
  refine ⟨fun h => ?_, fun h => ?_, fun h h2 => ?_⟩
  · rw [hP]
    unfold normC
    rw [if_pos (by have := hnb.2.2 h; omega)]
  · subst h; rfl
  · have h0 : sumLK t (setL L) (ones (setL L).length) (setL L).length = 0 := by
      have : ¬ 1 ≤ sumLK t (setL L) (ones (setL L).length) (setL L).length := fun h' => h (hnb.2.1 h')
      omega
    have hby : ∀ v ∈ keysOf (setL L), byTo (setL L) (ones (setL L).length) v (setL L).length = if v ∈ setL L then 1 else -1 := fun v hv => by
      rw [byTo_set hnd (hkp v hv)]
      obtain ⟨l, hl2, e⟩ := mem_keys.1 hv
      by_cases h1 : v ∈ setL L
      · have : -v ∉ setL L := fun h3 => h ⟨v, mem_setL.1 h1, mem_setL.1 h3⟩
        simp [h1, this]
      · have : -v ∈ setL L := by
          rcases (show l = v ∨ l = -v by omega) with rfl | rfl
          · exact absurd hl2 h1
          · exact hl2
        simp [h1, this]
    have hfil : (keysOf (setL L)).filter (fun v => byTo (setL L) (ones (setL L).length) v (setL L).length != 0) = keysOf (setL L) := by
      rw [List.filter_eq_self]
      intro v hv
      rw [hby v hv]; split <;> rfl
    have hmin : ∀ v ∈ keysOf (setL L), minI (absI (byTo (setL L) (ones (setL L).length) v (setL L).length)) 1 = 1 := fun v hv => by
      rw [hby v hv]; split <;> rfl
    rw [hP, h0, hfil]
    unfold normC
    have hne : 1 ≤ (keysOf (setL L)).length := by
      obtain ⟨l, hl3⟩ := List.exists_mem_of_ne_nil L h2
      exact List.length_pos_of_mem (mem_keys.2 ⟨l, mem_setL.2 hl3, rfl⟩)
    have hsl : sumI (fun v => minI (absI (byTo (setL L) (ones (setL L).length) v (setL L).length)) 1) (keysOf (setL L)) = (keysOf (setL L)).length := by
      rw [sumI_congr (g := fun _ => 1) hmin]
      clear hne hmin hfil hby hP
      induction keysOf (setL L) with
      | nil => rfl
      | cons x l ih => simp only [sumI, ih, List.length_cons]; omega
    rw [if_neg (by omega), Int.sub_zero, hsl, if_neg (by omega), if_neg (by omega)]
    have e1 : (keysOf (setL L)).map (litOf fun v => byTo (setL L) (ones (setL L).length) v (setL L).length) = varsorted (setL L) := by
      unfold varsorted
      refine List.map_congr_left fun v hv => ?_
      show (if byTo (setL L) (ones (setL L).length) v (setL L).length < 0 then -v else v) = _
      rw [hby v hv]
      by_cases h1 : v ∈ setL L <;> simp [h1]
    have e2 : (keysOf (setL L)).map (fun v => minI (absI (byTo (setL L) (ones (setL L).length) v (setL L).length)) 1) = ones (keysOf (setL L)).length := by
      rw [List.map_congr_left (g := fun _ => 1) hmin]; exact List.map_const'
    rw [e1, e2]
theorem clauseP_ok {L : List Int} (hl : ∀ l ∈ L, plitB l = true) (hlen : (setL L).length ≤ 65536) : (clauseP L).2 = 0 := by
  obtain ⟨h1, h2, h3⟩ := clauseP_form hl hlen
  by_cases hc : clash L
  · rw [h1 hc]
  · by_cases he : L = []
    · rw [h2 he]
    · rw [h3 hc he]
end Go.Proofs.YtjodocheiejkeaaGreatDoor
namespace Go.Proofs.YtjodocheiejkeaaGreatDoor
section
variable {r : GR} {n b : Int}
theorem clauseP_fine {L : List Int} (hl : ∀ l ∈ L, plitB l = true) (hlen : L.length ≤ 65536) : clauseP L = ((clauseP L).1, 0) := Prod.ext rfl (clauseP_ok hl (by
  have : (setL L).length ≤ L.length := by
    clear hl hlen
    induction L with
    | nil => simp [setL]
    | cons x l ih =>
      have h2 : ∀ (v : Int) (l : List Int), (insK v l).length ≤ l.length + 1 := fun v l => by
        induction l with
        | nil => simp [insK]
        | cons y l ih =>
          unfold insK
          split
          · simp
          · split
            · simp
            · simp only [List.length_cons]; omega
      have := h2 x (setL l)
      show (insK x (setL l)).length ≤ _
      simp only [List.length_cons]
      omega
  omega))
end
end Go.Proofs.YtjodocheiejkeaaGreatDoor
namespace Go.Proofs.YtjodocheiejkeaaGreatDoor
open Go.RowKit Go.Shelf
attribute [local go_sem] Oper.semAt_some
def valI (a : List Int) (l : Int) : Int := if offB a l then -1 else if offB a (-l) then 1 else 0
set_option maxHeartbeats 1000000 in
theorem pvalue_any (va : Value) (a : List Int) (w : World) (h : Bytes8 w va a) (l : Int) (hl0 : l ≠ 0) (hl : -4611686018427387904 ≤ l ∧ l ≤ 4611686018427387904) :
    Calls Tryz.prog 58 #[va, .int .i64 l] w fun e w' => e = .returned (.int .i64 (valI a l)) ∧ w = w' := by
  obtain ⟨⟨ad, cap, rfl, hcap, hmx, -, hc⟩, hb8⟩ := h
  have e8 : a.length < 9223372036854775808 := by unfold maxLen at hmx; omega
  obtain ⟨n, hn1, hln⟩ : ∃ n : Nat, 1 ≤ n ∧ (l = n ∨ l = -(n : Int)) := ⟨l.natAbs, by omega, by omega⟩
  have hneg : - -(n : Int) = n := by omega
  have HP := offB_pos a n hn1
  have HN := offB_neg a n
  by_cases h1 : n ≤ a.length
  · obtain ⟨b0, off0, rfl, hbl, hcc⟩ := hc (by omega)
    have hk : w.cell? ⟨b0, off0 + (n - 1), none⟩ = some (.int .i8 (ix a (n - 1))) := hcc (n - 1) (by omega)
    have hb := hb8 (n - 1)
    rw [decide_eq_true h1, Bool.true_and] at HP HN
    clear hcc hc hb8
    generalize ix a (n - 1) = y at *
    by_cases y0 : y = 0
    · subst y0
      have hp : offB a (n : Int) = false := by rw [HP]; simp
      have hn : offB a (-(n : Int)) = false := by rw [HN]; simp
      clear HP HN
      rcases hln with rfl | rfl
      · have HV : Hid (valI a n = 0) := Lib.hid (by unfold valI; rw [hp, hn]; rfl)
        clear hp hn
        go_enter Tryz.func58, Tryz.ntmps58
        go_wp2_with (go_at_call 65; (with_reducible refine (abs_any _ (by omega) _).mono ?_); rintro e w1 ⟨rfl, rfl⟩)
        go_ret
        exact ⟨ret_int HV.out.symm, rfl⟩
      · have HV : Hid (valI a (-(n : Int)) = 0) := Lib.hid (by unfold valI; rw [hneg, hp, hn]; rfl)
        clear hp hn
        go_enter Tryz.func58, Tryz.ntmps58
        go_wp2_with (go_at_call 65; (with_reducible refine (abs_any _ (by omega) _).mono ?_); rintro e w1 ⟨rfl, rfl⟩)
        go_ret
        exact ⟨ret_int HV.out.symm, rfl⟩
    · have hy0 : (y == 0) = false := by simp; omega
      by_cases hy : 0 < y
      · have hp : offB a (n : Int) = false := by rw [HP, decide_eq_false (show ¬ ¬ 0 < y by omega)]; simp
        have hn : offB a (-(n : Int)) = true := by rw [HN, decide_eq_true hy, decide_eq_true y0]; rfl
        have hyp : decide (0 < y) = true := decide_eq_true hy
        have hnp : decide (0 < n) = true := decide_eq_true (by omega)
        have hnn : decide ((n : Int) < 0) = false := decide_eq_false (by omega)
        clear HP HN y0
        rcases hln with rfl | rfl
        · have HV : Hid (valI a n = 1) := Lib.hid (by unfold valI; rw [hp, hn]; rfl)
          clear hp hn
          go_enter Tryz.func58, Tryz.ntmps58
          go_wp2_with (go_at_call 65; (with_reducible refine (abs_any _ (by omega) _).mono ?_); rintro e w1 ⟨rfl, rfl⟩)
          go_ret
          exact ⟨ret_int HV.out.symm, rfl⟩
        · have HV : Hid (valI a (-(n : Int)) = -1) := Lib.hid (by unfold valI; rw [hn]; rfl)
          clear hp hn
          go_enter Tryz.func58, Tryz.ntmps58
          go_wp2_with (go_at_call 65; (with_reducible refine (abs_any _ (by omega) _).mono ?_); rintro e w1 ⟨rfl, rfl⟩)
          go_ret
          exact ⟨ret_int HV.out.symm, rfl⟩
      · have hp : offB a (n : Int) = true := by rw [HP, decide_eq_true (show ¬ 0 < y by omega), decide_eq_true y0]; rfl
        have hn : offB a (-(n : Int)) = false := by rw [HN, decide_eq_false hy]; simp
        have hyp : decide (0 < y) = false := decide_eq_false hy
        have hnp : decide (0 < n) = true := decide_eq_true (by omega)
        have hnn : decide ((n : Int) < 0) = false := decide_eq_false (by omega)
        clear HP HN y0
        rcases hln with rfl | rfl
        · have HV : Hid (valI a n = -1) := Lib.hid (by unfold valI; rw [hp]; rfl)
          clear hp hn
          go_enter Tryz.func58, Tryz.ntmps58
          go_wp2_with (go_at_call 65; (with_reducible refine (abs_any _ (by omega) _).mono ?_); rintro e w1 ⟨rfl, rfl⟩)
          go_ret
          exact ⟨ret_int HV.out.symm, rfl⟩
        · have HV : Hid (valI a (-(n : Int)) = 1) := Lib.hid (by unfold valI; rw [hneg, hp, hn]; rfl)
          clear hp hn
          go_enter Tryz.func58, Tryz.ntmps58
          go_wp2_with (go_at_call 65; (with_reducible refine (abs_any _ (by omega) _).mono ?_); rintro e w1 ⟨rfl, rfl⟩)
          go_ret
          exact ⟨ret_int HV.out.symm, rfl⟩
  · have hp : offB a (n : Int) = false := by rw [HP, decide_eq_false h1]; simp
    have hn : offB a (-(n : Int)) = false := by rw [HN, decide_eq_false h1]; simp
    have h1' : (a.length : Int) < n := by omega
    clear HP HN
    rcases hln with rfl | rfl
    · have HV : Hid (valI a n = 0) := Lib.hid (by unfold valI; rw [hp, hn]; rfl)
      clear hp hn
      go_enter Tryz.func58, Tryz.ntmps58
      go_wp2_with (go_at_call 65; (with_reducible refine (abs_any _ (by omega) _).mono ?_); rintro e w1 ⟨rfl, rfl⟩)
      go_ret
      exact ⟨ret_int HV.out.symm, rfl⟩
    · have HV : Hid (valI a (-(n : Int)) = 0) := Lib.hid (by unfold valI; rw [hneg, hp, hn]; rfl)
      clear hp hn
      go_enter Tryz.func58, Tryz.ntmps58
      go_wp2_with (go_at_call 65; (with_reducible refine (abs_any _ (by omega) _).mono ?_); rintro e w1 ⟨rfl, rfl⟩)
      go_ret
      exact ⟨ret_int HV.out.symm, rfl⟩
end Go.Proofs.YtjodocheiejkeaaGreatDoor
namespace Go.Proofs.YtjodocheiejkeaaGreatDoor
open Go.RowKit Go.Shelf
attribute [local go_sem] Oper.semAt_some
theorem okF_mem {bd : Int} : ∀ {l : List (Int × Int)} {last : Int}, okF bd last l = true → ∀ x ∈ l, plitB x.1 = true ∧ 1 ≤ x.2 ∧ x.2 ≤ bd
  | [], _, _, x, hx => by cases hx
  | y :: l, last, h, x, hx => by
    unfold okF chkB at h
    simp only [Bool.and_eq_true, decide_eq_true_eq] at h
    rcases List.mem_cons.1 hx with rfl | hx
    · exact ⟨h.1.1.1.1, h.1.1.2, h.1.2⟩
    · exact okF_mem h.2 x hx
theorem sumW_bound {t : Int → Bool} {m : Int} (hm : 0 ≤ m) : ∀ {l : List (Int × Int)}, (∀ x ∈ l, 1 ≤ x.2 ∧ x.2 ≤ m) → 0 ≤ sumW t l ∧ sumW t l ≤ m * l.length
  | [], _ => by simp [sumW]
  | x :: l, h => by
    have ih := sumW_bound (t := t) hm (l := l) fun y hy => h y (.tail _ hy)
    have := h x (.head _)
    simp only [sumW, List.length_cons]
    push_cast
    rw [Int.mul_add]
    split <;> omega
theorem pbV_parts {c : PBC} (h : pbV c = true) : c.lits.length = c.coefs.length ∧ 0 ≤ c.bound ∧ c.bound ≤ 16777216 ∧ okF c.bound 0 (c.lits.zip c.coefs) = true ∧ (c.lits.length : Int) ≤ 65536 := by
  unfold pbV at h
  simp only [Bool.and_eq_true, decide_eq_true_eq] at h
  obtain ⟨⟨⟨h1, h2⟩, h3⟩, h4⟩ := h
  refine ⟨h1, h2.1, h2.2, h3, ?_⟩
  obtain ⟨a, b, d, e⟩ := okF_bound _ 0 (Int.le_refl _) h3
  by_cases e0 : c.lits.zip c.coefs = []
  · have := congrArg List.length e0
    rw [List.length_zip, ← h1, Nat.min_self] at this
    rw [this]; decide
  · have := e e0
    rw [List.length_zip, ← h1, Nat.min_self] at a
    omega
theorem pv_bound {c : PBC} (h : pbV c = true) {t : Int → Bool} {pre : List (PV c)} (hl : pre.length ≤ c.lits.length) : 0 ≤ sumW t (pvs pre) ∧ sumW t (pvs pre) ≤ 1099511627776 := by
  obtain ⟨h1, h2, h3, h4, h5⟩ := pbV_parts h
  have h6 := sumW_bound (t := t) (m := c.bound) h2 (l := pvs pre) fun x hx => by
    obtain ⟨y, hy, rfl⟩ := List.mem_map.1 hx
    exact (okF_mem h4 _ y.2).2
  rw [pvs_len] at h6
  have h7 : c.bound * (pre.length : Int) ≤ 16777216 * 65536 := Int.le_trans (Int.mul_le_mul_of_nonneg_right h3 (by omega)) (Int.mul_le_mul_of_nonneg_left (by omega) (by omega))
  omega
theorem pv_elem {c : PBC} (h : pbV c = true) (x : PV c) : x.1.1 ≠ 0 ∧ -65536 ≤ x.1.1 ∧ x.1.1 ≤ 65536 ∧ 1 ≤ x.1.2 ∧ x.1.2 ≤ 16777216 := by
  obtain ⟨h1, h2, h3, h4, h5⟩ := pbV_parts h
  obtain ⟨a, b, d⟩ := okF_mem h4 _ x.2
  unfold plitB at a
  rw [decide_eq_true_eq] at a
  omega
def onB (a : List Int) (l : Int) : Bool := decide (0 < valI a l)
def holdsC (c : PBC) (a : List Int) : Bool := pbV c && decide (c.bound ≤ sumW (onB a) (c.lits.zip c.coefs))
set_option maxHeartbeats 4000000 in
set_option maxRecDepth 100000 in
theorem holds_any (v va : Value) (c : PBC) (a : List Int) (w : World) (h : PBIs w v c) (ha : Bytes8 w va a) :
    Calls Tryz.prog 20 #[v, va] w fun e w' => e = .returned (.bool (holdsC c a)) ∧ Below w.heap.size w w' := by
  obtain ⟨vl, vk, rfl, hL, hK, hbd⟩ := h
  obtain ⟨a1, c1, rfl, -, hl1, -, -⟩ := hL.form
  obtain ⟨a2, c2, rfl, -, hl2, -, -⟩ := hK.form
  have ha0 := ha
  obtain ⟨⟨ad, ca, rfl, -⟩, -⟩ := ha0
  have hal : Below w.heap.size w (((w.alloc (.cells #[.slice a1 c.lits.length c1, .slice a2 c.coefs.length c2, .int .i64 c.bound] 46)).alloc (.cells #[.slice ad a.length ca] 39)).alloc (.cells #[.int .i64 0] 3)) := bal (bal (bal (Below.refl _ _) _) _) _
  have HAL := Lib.hid hal
  have HC : Hid (PBIs (((w.alloc (.cells #[.slice a1 c.lits.length c1, .slice a2 c.coefs.length c2, .int .i64 c.bound] 46)).alloc (.cells #[.slice ad a.length ca] 39)).alloc (.cells #[.int .i64 0] 3)) (.agg #[.slice a1 c.lits.length c1, .slice a2 c.coefs.length c2, .int .i64 c.bound]) c) := Lib.hid ⟨_, _, rfl, hL.below hal, hK.below hal, hbd⟩
  have BB : Hid (Blk (((w.alloc (.cells #[.slice a1 c.lits.length c1, .slice a2 c.coefs.length c2, .int .i64 c.bound] 46)).alloc (.cells #[.slice ad a.length ca] 39)).alloc (.cells #[.int .i64 0] 3)) w.heap.size [.slice a1 c.lits.length c1, .slice a2 c.coefs.length c2, .int .i64 c.bound] 46) := Lib.hid (by repeat first | (refine Blk.newAt _ _ _ ?_; first | rfl | (simp only [World.size_alloc]; done) | (simp only [World.size_alloc]; omega)) | refine Blk.alloc ?_ _)
  have BA : Hid (Blk (((w.alloc (.cells #[.slice a1 c.lits.length c1, .slice a2 c.coefs.length c2, .int .i64 c.bound] 46)).alloc (.cells #[.slice ad a.length ca] 39)).alloc (.cells #[.int .i64 0] 3)) (w.heap.size + 1) [.slice ad a.length ca] 39) := Lib.hid (by repeat first | (refine Blk.newAt _ _ _ ?_; first | rfl | (simp only [World.size_alloc]; done) | (simp only [World.size_alloc]; omega)) | refine Blk.alloc ?_ _)
  have BS : Hid (Blk (((w.alloc (.cells #[.slice a1 c.lits.length c1, .slice a2 c.coefs.length c2, .int .i64 c.bound] 46)).alloc (.cells #[.slice ad a.length ca] 39)).alloc (.cells #[.int .i64 0] 3)) (w.heap.size + 1 + 1) [.int .i64 0] 3) := Lib.hid (by repeat first | (refine Blk.newAt _ _ _ ?_; first | rfl | (simp only [World.size_alloc]; done) | (simp only [World.size_alloc]; omega)) | refine Blk.alloc ?_ _)
  have HL := Lib.hid hL
  have HK := Lib.hid hK
  have HA := Lib.hid ha
  unfold InI at hbd
  clear hL hK ha hal
  refine (callsIn_wide (n := 6)).1 ?_
  refine callsIn_of_wp_marks Tryz.func20 rfl trivial ?_ rfl
  simp only [Tryz.ntmps20, List.size_toArray, List.length_cons, List.length_nil, Nat.reduceAdd, Nat.reduceSub, Array.replicate_succ, Array.replicate_zero, List.push_toArray, List.append_toArray, List.nil_append, List.cons_append]
  cases hv : pbV c with
  | false =>
    have HF : Hid (holdsC c a = false) := Lib.hid (by unfold holdsC; rw [hv]; rfl)
    have HV := Lib.hid hv
    clear hv
    gi_wp2_with (refine ⟨trivial, ?_⟩; gi_at_call 53; refine (callsIn_wide.2 (pbValid_any _ c _ HC.out)).mono ?_; rintro e w0 ⟨ev, hb0⟩; rw [HV.out] at ev; subst ev; have kk0 := (BB.out.below hb0).cell; have kk1 := (BA.out.below hb0).cell; have kk2 := (BS.out.below hb0).cell; have kf2 := (BS.out.below hb0).free 0; have HB0 := Lib.hid (bon HAL.out hb0); have B0 := Lib.hid (BB.out.below hb0); have B1 := Lib.hid (BA.out.below hb0); have B2 := Lib.hid (BS.out.below hb0); clear hb0)
    exact ⟨.bool false, by simp [results, Tryz.f20, go_sem], by rw [HF.out], HB0.out⟩
  | true =>
    have HV := Lib.hid hv
    have HLN := Lib.hid (pbV_parts hv).1
    have hbb := (pbV_parts hv).2
    obtain ⟨hb0, hb1', -, hlen⟩ := hbb
    clear hv
    gi_wp2_with (first | (refine ⟨trivial, ?_⟩; gi_at_call 53; refine (callsIn_wide.2 (pbValid_any _ c _ HC.out)).mono ?_; rintro e w0 ⟨ev, hb0⟩; rw [HV.out] at ev; subst ev; have kk0 := (BB.out.below hb0).cell; have kk1 := (BA.out.below hb0).cell; have kk2 := (BS.out.below hb0).cell; have kf2 := (BS.out.below hb0).free 0; have HB0 := Lib.hid (bon HAL.out hb0); have B0 := Lib.hid (BB.out.below hb0); have B1 := Lib.hid (BA.out.below hb0); have B2 := Lib.hid (BS.out.below hb0); clear hb0) | (refine ⟨trivial, ?_⟩; gi_at_call 57; refine (callsIn_wide.2 (parts_any _ _ _ _ ⟨_, _, _, rfl⟩ ⟨_, _, _, rfl⟩)).mono ?_; rintro e w1 ⟨rfl, hb1, hp1⟩))
    have b0 := B0.out.below hb1
    have b1 := B1.out.below hb1
    have b2 := B2.out.below hb1
    have hbw := bon HB0.out hb1
    have hz := hp1.lt
    have hzs : w.heap.size + 1 + 1 < w0.heap.size := B2.out.lt
    have hst : PartSt w w1 [w.heap.size + 1 + 1] w0.heap.size (.slice a1 c.lits.length c1) (.slice a2 c.coefs.length c2) c.bound := ⟨fun i hi => hbw.block i hi, hbw.size, hp1⟩
    have hb1s := hb1.size
    clear hb1 hp1
    refine parts_loop HL.out HK.out HLN.out hst (fun s hs => by simp only [List.mem_cons, List.not_mem_nil, or_false] at hs; omega) (by simp; omega) (by omega) rfl rfl
      (fun pre W => HSt c w.heap.size (w.heap.size + 1 + 1) (.slice a1 c.lits.length c1) (.slice a2 c.coefs.length c2) (.slice ad a.length ca) 0 (onB a) pre W ∧ Up w w1 W)
      (fun _ _ _ => False)
      (OwnFrom.and HSt.own (Up.own hbw.size)) (fun _ _ _ _ _ h _ _ => h)
      ⟨⟨b0, b1, b2⟩, hbw, Nat.le_refl _⟩ ?a1 ?assign ?body ?done ?stop
    case assign =>
      intro l x W K hK
      gi_wp2
      exact hK
    case body =>
      rintro l pre x W ⟨⟨k0, k1, k2⟩, hU⟩ hlt
      have he := pv_elem HV.out x
      have hs := pv_bound HV.out (t := onB a) (pre := pre) (by omega)
      obtain ⟨⟨x1, x2⟩, hx⟩ := x
      dsimp only at he ⊢
      have HX0 : Hid (x1 ≠ 0) := Lib.hid he.1
      have HX1 : Hid (-4611686018427387904 ≤ x1 ∧ x1 ≤ 4611686018427387904) := Lib.hid (by omega)
      have hx2 : 1 ≤ x2 ∧ x2 ≤ 16777216 := he.2.2.2
      have HU := Lib.hid hU
      have HVA := Lib.hid (HA.out.below hU.below)
      have HK0 := Lib.hid k0
      have HK1 := Lib.hid k1
      have HK2 := Lib.hid k2
      have q1 := k1.cell 0
      have q2 := k2.cell 0
      have f2 := k2.free 0
      rw [Int.zero_add] at q2
      have HN : Hid (0 + sumW (onB a) (pvs (pre ++ [⟨(x1, x2), hx⟩])) = sumW (onB a) (pvs pre) + if onB a x1 then x2 else 0) := Lib.hid (by rw [Int.zero_add, pvs_snoc, sumW_snoc])
      have hU2 := hU.size
      clear k0 k1 k2 hU he hst b0 b1 b2
      generalize sumW (onB a) (pvs pre) = S9 at *
      by_cases hp : 0 < valI a x1
      · have HT : Hid (onB a x1 = true) := Lib.hid (decide_eq_true hp)
        gi_wp2_with (refine ⟨trivial, ?_⟩; gi_at_call 58; refine (CallsIn.inRound l (callsIn_wide.2 (pvalue_any _ a _ HVA.out _ HX0.out HX1.out))).mono ?_; rintro e w2 ⟨rfl, rfl⟩)
        refine ⟨KeepsOthers.setCell _ _ _, Lim.setCell _ (.inl (by simp)), ⟨HK0.out.setOther _ _ (by omega), HK1.out.setOther _ _ (by omega), ?_⟩, HU.out.set _ _ _ (by omega)⟩
        rw [HN.out, HT.out]
        exact HK2.out.set 0 _
      · have HT : Hid (onB a x1 = false) := Lib.hid (decide_eq_false hp)
        gi_wp2_with (refine ⟨trivial, ?_⟩; gi_at_call 58; refine (CallsIn.inRound l (callsIn_wide.2 (pvalue_any _ a _ HVA.out _ HX0.out HX1.out))).mono ?_; rintro e w2 ⟨rfl, rfl⟩)
        refine ⟨KeepsOthers.refl _, Lim.refl _ _ _, ⟨HK0.out, HK1.out, ?_⟩, HU.out⟩
        rw [HN.out, HT.out]
        have := HK2.out
        simpa using this
    case done =>
      rintro D xs W hD hS ⟨⟨k0, k1, k2⟩, hU⟩ hK
      have HK0 := Lib.hid k0
      have HK2 := Lib.hid k2
      have q0 := k0.cell
      have q2 := k2.cell 0
      rw [Int.zero_add] at q2
      have HF : Hid (holdsC c a = decide (c.bound ≤ sumW (onB a) (pvs xs))) := Lib.hid (by unfold holdsC; rw [HV.out, hS]; rfl)
      have HU := Lib.hid hU
      have HD := Lib.hid hK
      clear k0 k1 k2 hS hU hK hst b0 b1 b2
      gi_wp2
      refine ⟨by simp, .inl ⟨_, _, rfl, run_takeDeferred HD.out, ?_⟩⟩
      exact ⟨.bool (decide (c.bound ≤ sumW (onB a) (pvs xs))), by simp [results, Tryz.f20, go_sem], by rw [HF.out], HU.out.below.trans (belowK_b (w := w) (Nat.le_refl _) _ D _ _ (by omega) HD.out rfl rfl)⟩
    case stop => rintro D e pre W hD hS ⟨⟩
end Go.Proofs.YtjodocheiejkeaaGreatDoor
namespace Go.Proofs.YtjodocheiejkeaaGreatDoor
open Go.RowKit
def varsI (p : GP) : Int := if validE p = 0 then p.n + p.rules.length else 0
theorem varsI_any (v : Value) (p : GP) (w : World) (h : ProgIs w v p) :
    Calls Tryz.prog 17 #[v] w fun e w' => e = .returned (.int .i64 (varsI p)) ∧ Below w.heap.size w w' := by
  have h0 := h
  obtain ⟨vn, vs, vr, vm, rfl, hn, hnames, hshown, hrules, hmin⟩ := h
  have hal := bal (Below.refl w.heap.size w) (.cells #[.int .i64 p.n, vn, vs, vr, vm] 27)
  have HP := Lib.hid (h0.below hal)
  obtain ⟨a1, c1, rfl, -, hl1, -, hcell⟩ := hrules.form
  clear h0 hnames hshown hmin hrules hcell
  by_cases hv : validE p = 0
  · have hV := validP hv
    have hvn := hV.n
    have hvr := hV.rules
    have hve : (validE p != 0) = false := by simp [hv]
    have HF : Hid (varsI p = p.n + p.rules.length) := Lib.hid (if_pos hv)
    clear hv hV
    go_enter Tryz.func17, Tryz.ntmps17
    go_wp2_with (go_at_call 22; refine (valid_any _ p _ HP.out).mono ?_; rintro e w1 ⟨rfl, hb1⟩; have hc1 := bcell hb1; have hz1 : w.heap.size < w1.heap.size := (by have := hb1.size; simp at this; omega))
    go_ret
    exact ⟨ret_int HF.out.symm, bon hal hb1⟩
  · have hve : (validE p != 0) = true := by simp [hv]
    have HF : Hid (varsI p = 0) := Lib.hid (if_neg hv)
    clear hv
    go_enter Tryz.func17, Tryz.ntmps17
    go_wp2_with (go_at_call 22; refine (valid_any _ p _ HP.out).mono ?_; rintro e w1 ⟨rfl, hb1⟩)
    go_ret
    exact ⟨ret_int HF.out.symm, bon hal hb1⟩
end Go.Proofs.YtjodocheiejkeaaGreatDoor
namespace Go.Proofs.YtjodocheiejkeaaGreatDoor
def Total (a : List Int) : Prop := ∀ j, j < a.length → ix a j = 1 ∨ ix a j = -1
section
variable {p : GP} {a m : List Int}
end
end Go.Proofs.YtjodocheiejkeaaGreatDoor
namespace Go.Proofs.YtjodocheiejkeaaGreatDoor
theorem extA_total {p : GP} {m : List Int} (hv : validE p = 0) (hm : setQ p.n m = true) : Total (extA p m) := fun j hj => by
  rw [ext_len hv hm] at hj
  rw [ext_ix hv hm hj]
  unfold extAt
  split <;> split <;> first | exact .inl rfl | exact .inr rfl
end Go.Proofs.YtjodocheiejkeaaGreatDoor
