/- My texts PbV, Subs, Lt0, StI, Lo27, FrameB, merged. -/
import Derived.Test.YtjodocheiejkeaaGreatDoorM04
import Derived.Test.YtjodocheiejkeaaGreatDoorM28
import Derived.Test.YtjodocheiejkeaaGreatDoorM00
import Derived.Test.YtjodocheiejkeaaGreatDoorProg
import Derived.WalkKit
import Derived.Lib.Hide
import Derived.Deep.QuietTactic
import Derived.BigQuiet
import Derived.Test.YtjodocheiejkeaaGreatDoorM22
import Derived.Test.YtjodocheiejkeaaGreatDoorM03
import Derived.Test.YtjodocheiejkeaaGreatDoorM02
import Derived.WalkSpells
import Derived.Lib.SliceRun
import Derived.MapKept
import Derived.Maps.OwnSet
import Derived.Maps.OwnOps
import Derived.Test.YtjodocheiejkeaaGreatDoorM01
import Derived.Deep.AppendLies
import Derived.Lib.Bytealg
import Derived.Deep.DeepCutAuto
import Derived.Test.YtjodocheiejkeaaGreatDoorM12
import Derived.Test.YtjodocheiejkeaaGreatDoorM26
import Derived.Test.YtjodocheiejkeaaGreatDoorM16
import Derived.Test.YtjodocheiejkeaaGreatDoorM11
import Derived.Deep.AppendSrc
import Derived.Test.YtjodocheiejkeaaGreatDoorM15
import Derived.Test.YtjodocheiejkeaaGreatDoorM06
import Derived.Test.YtjodocheiejkeaaGreatDoorM05
import Derived.Laws.EntriesVeiled
import Derived.Test.YtjodocheiejkeaaGreatDoorM23
import Derived.RangeFuncNested
import Derived.RangeFuncBound
import Derived.RangeFuncCalls
import Derived.RangeFuncLeaves
import Derived.OwnWalkIn
import Derived.TacticsInMore
import Derived.LoopNIn
import Derived.LoopIn
import Derived.Stop.RegionWithIn
import Derived.Test.YtjodocheiejkeaaGreatDoorM09
import Derived.Test.YtjodocheiejkeaaGreatDoorM08
import Derived.Test.YtjodocheiejkeaaGreatDoorM07
import Derived.Shelf.Abstract
import Derived.Sort.QuietThIn
import Derived.Test.YtjodocheiejkeaaGreatDoorM10
import Derived.Maps.RangeWalk
import Derived.Lib.SlicesCompact
import Derived.Shelf.Sort.Plain
import Derived.Shelf.Slices.CompactI
import Derived.Shelf.Slices.In.SortNone
import Derived.Shelf.Strconv.Itoa3
import Derived.Shelf.Strings.BuilderK
import Derived.Sort.OwnSortedInts
import Derived.RangeFuncBox
import Derived.Maps.OwnIn
import Derived.Lib.RowBridge
import Derived.Deep.OwnRows
import Derived.Test.YtjodocheiejkeaaGreatDoorM25
import Derived.Test.YtjodocheiejkeaaGreatDoorM24
import Derived.Test.YtjodocheiejkeaaGreatDoorM17
import Derived.Deep.RegionWith
import Derived.Test.YtjodocheiejkeaaGreatDoorM14
import Derived.Test.YtjodocheiejkeaaGreatDoorM13
import Derived.Deep.LoopGhost
import Derived.Deep.DrawnRows
import Derived.Deep.DeepMust
import Derived.ProofKit
import Derived.OpenShut
import Derived.ChangeArms
import Derived.SizedLaws
import Derived.Test.YtjodocheiejkeaaGreatDoorM21
import Derived.Shelf.SlSortCmp.Kit1
import Derived.RangeFuncOwn
import Derived.Test.YtjodocheiejkeaaGreatDoorM20
import Derived.Test.YtjodocheiejkeaaGreatDoorM18
import Derived.Deep.RegionHeld3
import Derived.Laws.ResultCell
import Derived.Laws.Rows
import Derived.Deep.RegionLaw
import Derived.Test.YtjodocheiejkeaaGreatDoorM19
import Derived.Sort.CutIn
import Derived.Shelf.SlSortCmp.NoneTotal
import Derived.Shelf.SlLaysF
import Derived.Test.YtjodocheiejkeaaGreatDoorM27

namespace Go.Proofs.YtjodocheiejkeaaGreatDoor
theorem mem_varsorted {S : List Int} (hp : ∀ x ∈ S, x ≠ 0) (hc : ¬ clash S) {x : Int} : x ∈ varsorted S ↔ x ∈ S := by
  unfold varsorted
  rw [List.mem_map]
  constructor
  · rintro ⟨v, hv, rfl⟩
    obtain ⟨l, hl, e⟩ := mem_keys.1 hv
    split
    · assumption
    · rename_i h
      rcases (show l = v ∨ l = -v by omega) with rfl | rfl
      · exact absurd hl h
      · exact hl
  · intro hx
    refine ⟨(x.natAbs : Int), mem_keys.2 ⟨x, hx, rfl⟩, ?_⟩
    have h0 := hp x hx
    by_cases h : 0 < x
    · have e : (x.natAbs : Int) = x := by omega
      rw [e, if_pos hx]
    · have e : (x.natAbs : Int) = -x := by omega
      rw [e, if_neg (fun h2 => hc ⟨x, hx, h2⟩)]
      omega
theorem clash_set {L : List Int} : clash (setL L) ↔ clash L := by
  constructor
  · rintro ⟨v, h1, h2⟩; exact ⟨v, mem_setL.1 h1, mem_setL.1 h2⟩
  · rintro ⟨v, h1, h2⟩; exact ⟨v, mem_setL.2 h1, mem_setL.2 h2⟩
theorem clauseP_mem {L : List Int} (hl : ∀ l ∈ L, plitB l = true) (hlen : (setL L).length ≤ 65536) (hb : (clauseP L).1.bound = 1) : ∀ x, x ∈ (clauseP L).1.lits ↔ x ∈ L := by
  obtain ⟨h1, h2, h3⟩ := clauseP_form hl hlen
  intro x
  by_cases hc : clash L
  · rw [h1 hc] at hb; cases hb
  · by_cases he : L = []
    · rw [h2 he, he]
    · rw [h3 hc he]
      show x ∈ varsorted (setL L) ↔ _
      rw [mem_varsorted (fun y hy => by
        have := hl y (mem_setL.1 hy)
        unfold plitB at this
        rw [decide_eq_true_eq] at this
        exact this.1) (fun h => hc (clash_set.1 h)), mem_setL]
end Go.Proofs.YtjodocheiejkeaaGreatDoor
namespace Go.Proofs.YtjodocheiejkeaaGreatDoor
open Go.RowKit
theorem subset_int (x bits : Int) (hx : 0 ≤ x ∧ x ≤ 60) (w : World) :
    Calls Tryz.prog 15 #[.int .i64 x, .int .i64 bits] w fun e w' => ∃ v, e = .returned v ∧ QRow w.heap.size w' v (subL bits x.toNat) ∧ Below w.heap.size w w' := by
  obtain ⟨n, rfl⟩ := Int.eq_ofNat_of_zero_le hx.1
  exact subset_any n bits (by omega) w
end Go.Proofs.YtjodocheiejkeaaGreatDoor
namespace Go.Proofs.YtjodocheiejkeaaGreatDoor
theorem excV_is (u : SU) (L : List Int) : excV u L = excR (fun l => decide (l ∈ L)) u := by
  unfold excV excR ex2V ex3V ex4V inB
  rw [any_ix u.r.body (fun l => decide (l ∈ L)), any_ix (oth u) (fun h => decide (-h ∈ L))]
theorem setB_mem {n : Int} {S : List Int} (h : setB' n S = true) {u : Int} (hu : u ∈ S) : 1 ≤ u ∧ u ≤ n := by
  unfold setB' at h
  rw [Bool.and_eq_true] at h
  obtain ⟨j, hj, rfl⟩ := mem_ix.1 hu
  have := allR_get h.1 j hj
  unfold setTo at this
  rw [Bool.and_eq_true, decide_eq_true_eq] at this
  exact this.1
end Go.Proofs.YtjodocheiejkeaaGreatDoor
namespace Go.Proofs.YtjodocheiejkeaaGreatDoor
theorem clause_off {c : PBC} {a : List Int} (hp : pbV c = true) (hb : c.bound = 1) (h : holdsC c a = false) : ∀ l ∈ c.lits, onB a l = false := fun l hl => by
  unfold holdsC at h
  rw [hp, Bool.true_and, decide_eq_false_iff_not, hb] at h
  unfold pbV at hp
  simp only [Bool.and_eq_true, decide_eq_true_eq] at hp
  obtain ⟨⟨⟨he, -⟩, hok⟩, -⟩ := hp
  have key : ∀ (q : List (Int × Int)) (last : Int), okF c.bound last q = true → 0 ≤ sumW (onB a) q ∧ ∀ x ∈ q, onB a x.1 = true → 1 ≤ sumW (onB a) q := by
    intro q
    induction q with
    | nil => intro _ _; exact ⟨by simp [sumW], fun x hx => by cases hx⟩
    | cons y q ih =>
      intro last ho
      unfold okF chkB at ho
      simp only [Bool.and_eq_true, decide_eq_true_eq] at ho
      obtain ⟨⟨⟨-, h1⟩, -⟩, h2⟩ := ho
      obtain ⟨i1, i2⟩ := ih _ h2
      unfold sumW
      refine ⟨by split <;> omega, fun x hx hox => ?_⟩
      rcases List.mem_cons.1 hx with rfl | hx
      · rw [if_pos hox]; omega
      · have := i2 x hx hox
        split <;> omega
  cases ho : onB a l with
  | false => rfl
  | true =>
    exfalso
    obtain ⟨j, hj, rfl⟩ := mem_ix.1 hl
    have hz : (ix c.lits j, ix c.coefs j) ∈ c.lits.zip c.coefs := by
      rw [ix_get hj, ix_get (show j < c.coefs.length by omega), ← List.getElem_zip (h := by rw [List.length_zip]; omega)]
      exact List.getElem_mem _
    exact h ((key _ _ hok).2 _ hz ho)
theorem off_on {a : List Int} (ht : Total a) {l : Int} (h0 : l ≠ 0) (hl : l.natAbs ≤ a.length) (h : onB a l = false) : offB a l = true := by
  unfold onB valI at h
  cases ho : offB a l with
  | true => rfl
  | false =>
    exfalso
    rw [ho, if_neg Bool.false_ne_true] at h
    obtain ⟨n, hn1, hln⟩ : ∃ n : Nat, 1 ≤ n ∧ (l = n ∨ l = -(n : Int)) := ⟨l.natAbs, by omega, by omega⟩
    have hneg : - -(n : Int) = n := by omega
    have hj := ht (n - 1) (by omega)
    rcases hln with rfl | rfl
    · rw [offB_pos a n hn1] at ho
      rw [offB_neg a n] at h
      have h1 : decide (n ≤ a.length) = true := decide_eq_true (by omega)
      rw [h1, Bool.true_and] at ho h
      rcases hj with e | e <;> rw [e] at ho h <;> revert ho h <;> decide
    · rw [hneg, offB_pos a n hn1] at h
      rw [offB_neg a n] at ho
      have h1 : decide (n ≤ a.length) = true := decide_eq_true (by omega)
      rw [h1, Bool.true_and] at ho h
      rcases hj with e | e <;> rw [e] at ho h <;> revert ho h <;> decide
theorem stabD_clause {p : GP} {m U : List Int} {c : PBC} (hv : validE p = 0) (hm : setQ p.n m = true) (h : StabD p m) (hc : validC p U c = true) (hl : ∀ l ∈ c.lits, l ≠ 0 ∧ (l.natAbs : Int) ≤ p.n + p.rules.length) : holdsC c (extA p m) = true := by
  refine Classical.byContradiction fun hh => ?_
  have hh := Bool.eq_false_iff.2 hh
  unfold validC at hc
  simp only [Bool.and_eq_true, decide_eq_true_eq] at hc
  obtain ⟨-, hset, hpb, hbd, hsome, hall⟩ := hc
  have ht := extA_total hv hm
  have hN := ext_len hv hm
  have hn := (validP hv).n
  have hoff : ∀ l ∈ c.lits, offB (extA p m) l = true := fun l hlm => off_on ht (hl l hlm).1 (by have := (hl l hlm).2; omega) (clause_off hpb hbd hh l hlm)
  obtain ⟨j, hj, hin⟩ := List.any_eq_true.1 hsome
  have hj := List.mem_range.1 hj
  have hin : -(ix U j) ∈ c.lits := of_decide_eq_true hin
  have hr := setB_mem hset (ix_mem hj)
  have hym : ix U j ∈ m := by
    have := hoff _ hin
    rw [off_lit hv hm (by omega) (by omega)] at this
    unfold litT at this
    rw [if_neg (by omega), Int.neg_neg, Bool.not_not] at this
    exact of_decide_eq_true this
  have hg : (supsTo p U p.rules.length).all (excR fun l => decide (l ∈ c.lits)) = true := by
    rw [← hall]
    unfold allExcV
    congr 1
    funext u
    exact (excV_is u _).symm
  refine stabD_loop hv h hg (fun i hi x hx hgx => ?_) (fun i hi hgb => ?_) (fun i hi x hx hgx => ?_) (ix_mem hj) hym
  · have := hoff x (of_decide_eq_true hgx)
    rw [ext_off1 hv hm hi x hx] at this; simpa using this
  · have := hoff _ (of_decide_eq_true hgb)
    rw [off_body hv hm hi] at this; simpa using this
  · have := hoff _ (of_decide_eq_true hgx)
    rw [ext_off3 hv hm hi x hx] at this; exact of_decide_eq_true this
end Go.Proofs.YtjodocheiejkeaaGreatDoor
namespace Go.Proofs.YtjodocheiejkeaaGreatDoor
open Go.RowKit
def modTo (V : Int) (l : List Int) : Nat → List Int
  | 0 => []
  | k + 1 => if (ix l k).tmod (V + 1) = 0 then modTo V l k else modTo V l k ++ [(ix l k).tmod (V + 1)]
theorem tmod_rng (x V : Int) (hV : 0 ≤ V) : -V ≤ x.tmod (V + 1) ∧ x.tmod (V + 1) ≤ V := by
  have h1 := Int.tmod_lt_of_pos x (show 0 < V + 1 by omega)
  have h2 := Int.tmod_lt_of_pos (-x) (show 0 < V + 1 by omega)
  rw [Int.neg_tmod] at h2
  omega
theorem modTo_len (V : Int) (l : List Int) : ∀ k, (modTo V l k).length ≤ k
  | 0 => by simp [modTo]
  | k + 1 => by
    have := modTo_len V l k
    unfold modTo
    split
    · omega
    · rw [List.length_append, List.length_singleton]; omega
theorem modTo_rng {V : Int} (hV : 0 ≤ V) (l : List Int) : ∀ k, ∀ x ∈ modTo V l k, x ≠ 0 ∧ (x.natAbs : Int) ≤ V
  | 0, x, h => by simp [modTo] at h
  | k + 1, x, h => by
    unfold modTo at h
    split at h
    · exact modTo_rng hV l k x h
    · rename_i h0
      rcases List.mem_append.1 h with h | h
      · exact modTo_rng hV l k x h
      · obtain rfl : x = (ix l k).tmod (V + 1) := by simpa using h
        have := tmod_rng (ix l k) V hV
        exact ⟨h0, by omega⟩
def Lo1Rel (V : Int) (l : List Int) (n : Nat) (W : World) (v i : Value) (wx : World) : Prop :=
  ∃ k : Nat, k ≤ n ∧ i = .int .i64 k ∧ QRow W.heap.size wx v (modTo V l k) ∧ Below W.heap.size W wx
def Lo2Rel (W : World) (n : Nat) (i : Value) (wx : World) : Prop :=
  ∃ k : Nat, k ≤ n ∧ i = .int .i64 k ∧ Below W.heap.size W wx
def lo27Φ (E : List Int) (i : Nat) (_ : List Value) (v : Value) (_ _ : Nat) (w : World) : Prop :=
  match i with
  | 3 => (∃ a n c, v = .slice a n c) ∧ Bytes8 w v E
  | _ => v = .bool true
theorem lo27Φ_later (E : List Int) : ∀ i args v lo hi w w', lo27Φ E i args v lo hi w → Below w.heap.size w w' → lo27Φ E i args v lo hi w' := by
  intro i args v lo hi w w' h hb
  unfold lo27Φ at *
  split at h <;> first | exact h | exact ⟨h.1, h.2.below hb⟩
set_option maxHeartbeats 4000000 in
set_option maxRecDepth 100000 in
theorem lo27_walk (vp vl : Value) (p : GP) (l : List Int) (bits : Int) (w : World) (hP : ProgIs w vp p) (hL : Ints w vl l) (hbi : 0 ≤ bits ∧ bits ≤ 255) :
    Calls Tryz.prog 5 #[vp, .int .u8 bits, vl] w fun e w' => e = .returned (.bool true) ∧ Below w.heap.size w w' := by
  have hP0 := hP
  obtain ⟨vn, vs, vr, vm, rfl, hPS⟩ := hP
  have hpn := hPS.n
  unfold InI at hpn
  obtain ⟨ar, cr, rfl, -, hlr, -, -⟩ := hPS.rules.form
  obtain ⟨al, cl, rfl, hlc, hll, -, hcl⟩ := hL.form
  have HS0 := Lib.hid (LwSt.start hP0)
  have HCL := Lib.hid hcl
  have HLI : Hid (∀ j, InI (ix l j)) := Lib.hid hL.2
  clear hP0 hPS hL hcl
  go_enter Tryz.func5, Tryz.ntmps5
  go_upto_region 1 with fail
  have kx0 := HS0.out.box.cell
  generalize w.alloc (.cells #[.int .i64 p.n, vn, vs, .slice ar p.rules.length cr, vm] 27) = W at *
  cases hsm : small27B p with
  | false =>
    have HSM := Lib.hid hsm
    clear hsm
    go_wp2_with (first
      | (go_at_call 13; (with_reducible refine (small27_any _ p _ HS0.out.prog).mono ?_); rintro e w1 ⟨h1, hb1⟩; rw [HSM.out] at h1; subst h1; have HS1 := Lib.hid (HS0.out.on hb1); have kx1 := HS1.out.box.cell; clear hb1)
      | (go_at_call 14; (with_reducible refine (awake27_any _).mono ?_); rintro e w9 ⟨rfl, hb9⟩; have HS9 := Lib.hid (HS1.out.on hb9); have kx9 := HS9.out.box.cell; clear hb9))
    go_ret
    exact ⟨rfl, HS9.out.below⟩
  | true =>
    have HSM := Lib.hid hsm
    have hsm2 := hsm
    unfold small27B at hsm2
    simp only [Bool.and_eq_true, decide_eq_true_eq] at hsm2
    obtain ⟨⟨⟨-, h6⟩, h7⟩, hv⟩ := hsm2
    clear hsm
    by_cases hz : p.n = 0
    · have hz2 : (p.n == 0) = true := by simp [hz]
      clear hv hz
      go_wp2_with (first
        | (go_at_call 13; (with_reducible refine (small27_any _ p _ HS0.out.prog).mono ?_); rintro e w1 ⟨h1, hb1⟩; rw [HSM.out] at h1; subst h1; have HS1 := Lib.hid (HS0.out.on hb1); have kx1 := HS1.out.box.cell; clear hb1)
        | (go_at_call 14; (with_reducible refine (awake27_any _).mono ?_); rintro e w9 ⟨rfl, hb9⟩; have HS9 := Lib.hid (HS1.out.on hb9); have kx9 := HS9.out.box.cell; clear hb9))
      go_ret
      exact ⟨rfl, HS9.out.below⟩
    have hz2 : (p.n == 0) = false := by simp [hz]
    have HV := Lib.hid hv
    have hn0 := (validP hv).n
    obtain ⟨N, hN⟩ : ∃ N : Nat, p.n = N := ⟨p.n.toNat, by omega⟩
    have HN := Lib.hid hN
    have hN12 : N ≤ 12 := by omega
    have h1000 : p.rules.length ≤ 1000 := by omega
    obtain ⟨V, hVV⟩ : ∃ V : Nat, varsI p = V ∧ (V : Int) = p.n + p.rules.length ∧ V ≤ 14 := ⟨(p.n + p.rules.length).toNat, by unfold varsI; rw [if_pos hv]; omega, by omega, by omega⟩
    obtain ⟨hVV, hVn, hV14⟩ := hVV
    have HVV := Lib.hid hVV
    have HVN := Lib.hid hVn
    have hsl := subL_len bits p.n.toNat
    clear hv hN hVV hVn
    go_upto_region 5 with (first
      | (go_at_call 13; (with_reducible refine (small27_any _ p _ HS0.out.prog).mono ?_); rintro e w1 ⟨h1, hb1⟩; rw [HSM.out] at h1; subst h1; have HS1 := Lib.hid (HS0.out.on hb1); have kx1 := HS1.out.box.cell; clear hb1)
      | (go_at_call 17; (with_reducible refine (varsI_any _ p w2 HS2.out.prog).mono ?_); rintro e w3 ⟨e3, hb3⟩; rw [HVV.out] at e3; subst e3; have HS3 := Lib.hid (HS2.out.on hb3); have kx3 := HS3.out.box.cell; have HI3 := Lib.hid (HI2.out.below hb3); clear hb3)
      | (go_at_call 15; (with_reducible refine (subset_int p.n bits (by omega) w1).mono ?_); rintro e w2 ⟨vset, rfl, hq, hb2⟩; obtain ⟨aS, cS, rfl⟩ := hq.slen; have HS2 := Lib.hid (HS1.out.on hb2); have kx2 := HS2.out.box.cell; have HI2 := Lib.hid (hq.ints (by omega)); clear hb2 hq))
    obtain ⟨S, hS⟩ : ∃ S, subL bits p.n.toNat = S := ⟨_, rfl⟩
    rw [hS] at HI2 HI3 ⊢
    clear hS hsl kx0 kx1 kx2 kx3
    obtain ⟨K, hK, hKl, hK10⟩ : ∃ K : Nat, min (l.length : Int) 10 = K ∧ K ≤ l.length ∧ K ≤ 10 := ⟨min l.length 10, by omega, Nat.min_le_left _ _, Nat.min_le_right _ _⟩
    go_upto_region 7 with fail
    go_loopw [9, 40] (fun v i wx => Lo1Rel V l K w3 v i wx) (fun _ i _ => K - (intOf i).toNat)
    case atStart => exact ⟨0, Nat.zero_le _, rfl, QRow.nil _ _, Below.refl _ _⟩
    case round =>
      obtain ⟨k, hk, rfl, hq, hbl⟩ := hrel
      have HQ := Lib.hid hq
      have HBX := Lib.hid hbl
      have hlen2 := modTo_len V l k
      have hlen3 : ((modTo V l k).length + 1) * 8 ≤ 140737488351232 := by omega
      obtain ⟨av, nv, cv, rfl⟩ := hq.form
      have hzr := hbl.size
      clear hq
      by_cases hlt : k < K
      · obtain ⟨b, off, rfl, hbl2, hc⟩ := HCL.out (by omega)
        have hk1 := (bcell (bon HS3.out.below HBX.out) _ _ hbl2).trans (hc k (by omega))
        have hxi := HLI.out k
        have htm := tmod_rng (ix l k) V (by omega)
        have HSX : Hid (modTo V l (k + 1) = if (ix l k).tmod ((V : Int) + 1) = 0 then modTo V l k else modTo V l k ++ [(ix l k).tmod ((V : Int) + 1)]) := Lib.hid rfl
        unfold InI at hxi
        have hv1 : ((V : Int) + 1 == 0) = false := beq_eq_false_iff_ne.2 (by omega)
        clear hc hbl
        by_cases h0 : (ix l k).tmod ((V : Int) + 1) = 0
        · rw [if_pos h0] at HSX
          go_wp2
          first
            | (go_roundw
               case rel => (exact ⟨k + 1, hlt, by go_num, by rw [HSX.out]; exact HQ.out, HBX.out⟩)
               case measure => (simp [intOf]; omega))
            | (refine ⟨?_, ?_⟩
               · (exact ⟨k + 1, hlt, by go_num, by rw [HSX.out]; exact HQ.out, HBX.out⟩)
               · (simp [intOf]; omega))
        · rw [if_neg h0] at HSX
          have h0b : ((ix l k).tmod ((V : Int) + 1) != 0) = true := by simp [h0]
          have hxI : InI ((ix l k).tmod ((V : Int) + 1)) := by unfold InI; omega
          have HXI := Lib.hid hxI
          clear hxI
          go_wp2_with (at_builtin; refine wpList_appendQ rfl _ _ 23 Tryz.underlying23 rfl w3.heap.size _ (modTo V l k) ((ix l k).tmod ((V : Int) + 1)) rfl (HQ.out.kept (w' := wr.alloc (.cells #[.int .i64 ((ix l k).tmod ((V : Int) + 1))] 3)) (fun i h1 h2 _ => Below.heap_alloc _ _ _ h2)) wr.heap.size 1 rfl (Blk.new wr [.int .i64 ((ix l k).tmod ((V : Int) + 1))] _) HXI.out hlen3 (by simp; omega) ?_; intro v4 w4 hq4 hg4 hl4; have HB4 := Lib.hid (below_push HBX.out HQ.out (Nat.le_refl _) hg4); have HQ4 := Lib.hid hq4; clear hq4 hg4 hl4)
          first
            | (go_roundw
               case rel => (exact ⟨k + 1, hlt, by go_num, by rw [HSX.out]; exact HQ4.out, HB4.out⟩)
               case measure => (simp [intOf]; omega))
            | (refine ⟨?_, ?_⟩
               · (exact ⟨k + 1, hlt, by go_num, by rw [HSX.out]; exact HQ4.out, HB4.out⟩)
               · (simp [intOf]; omega))
      · obtain rfl : k = K := by omega
        have hrg := modTo_rng (V := V) (by omega) l k
        obtain ⟨L, hL⟩ : ∃ L, modTo V l k = L := ⟨_, rfl⟩
        rw [hL] at HQ hrg hlen2 hlen3
        obtain ⟨aL, cL, eL⟩ := HQ.out.slen
        simp only [Value.slice.injEq] at eL
        obtain ⟨rfl, rfl, rfl⟩ := eL
        have HRG := Lib.hid hrg
        have hpl : ∀ x ∈ L, plitB x = true := fun x hx => by
          have := hrg x hx
          unfold plitB
          simp only [decide_eq_true_eq]
          omega
        have hsz : L.length ≤ 65536 := by omega
        obtain ⟨c, hc⟩ : ∃ c, clauseP L = (c, 0) := ⟨_, clauseP_fine hpl hsz⟩
        have HCP := Lib.hid hc
        have HPL := Lib.hid hpl
        have HIL := Lib.hid (HQ.out.ints (by omega))
        have HSr := Lib.hid (HS3.out.on hbl)
        have HBr := Lib.hid hbl
        clear hbl hc hpl hrg hL
        go_upto_region 14 with (go_at_call 18; (with_reducible refine (clause_any _ L wr HIL.out).mono ?_); rintro e w4 ⟨vp, e4, hq, hb4⟩; rw [HCP.out] at e4 hq; subst e4; obtain ⟨vl, vk, rfl, hq1, hq2, hq3⟩ := hq; obtain ⟨x1, y1, rfl⟩ := hq1.slen; obtain ⟨x2, y2, rfl⟩ := hq2.slen; have hal := bal (Below.refl w4.heap.size w4) (.cells #[.slice x1 c.lits.length y1, .slice x2 c.coefs.length y2, .int .i64 c.bound] 46); have HX := Lib.hid (Blk.new w4 [.slice x1 c.lits.length y1, .slice x2 c.coefs.length y2, .int .i64 c.bound] 46); have HXI := Lib.hid ((PBQ.is ⟨_, _, rfl, hq1, hq2, hq3⟩).below hal); have HB5 := Lib.hid (bon hb4 hal); clear hq1 hq2 hq3 hal hb4)
        generalize hw5 : w4.alloc (.cells #[.slice x1 c.lits.length y1, .slice x2 c.coefs.length y2, .int .i64 c.bound] 46) = w5 at *
        clear hw5
        generalize w4.heap.size = bx at *
        have HS5 := Lib.hid (HSr.out.on HB5.out)
        have HI5 := Lib.hid ((HI3.out.below HBr.out).below HB5.out)
        have kx5 := HS5.out.box.cell
        have kc5 := HX.out.cell
        obtain ⟨vb, hvb⟩ : ∃ vb, validC p S c = vb := ⟨_, rfl⟩
        have HVB := Lib.hid hvb
        cases vb with
        | false =>
          clear hvb
          go_wp2_with (first
            | (go_at_call 19; (with_reducible refine (lval_any _ _ _ p S c w5 HS5.out.prog HI5.out HXI.out).mono ?_); rintro e w6 ⟨h6, hb6⟩; rw [HVB.out] at h6; subst h6; have HS6 := Lib.hid (HS5.out.on hb6); have kx6 := HS6.out.box.cell; clear hb6)
            | (go_at_call 14; (with_reducible refine (awake27_any _).mono ?_); rintro e w9 ⟨rfl, hb9⟩; have HS9 := Lib.hid (HS6.out.on hb9); have kx9 := HS9.out.box.cell; clear hb9))
          go_ret
          exact ⟨rfl, HS9.out.below⟩
        | true =>
          clear hvb
          go_upto_region 20 with (first
            | (go_at_call 19; (with_reducible refine (lval_any _ _ _ p S c w5 HS5.out.prog HI5.out HXI.out).mono ?_); rintro e w6 ⟨h6, hb6⟩; rw [HVB.out] at h6; subst h6; have HS6 := Lib.hid (HS5.out.on hb6); have kx6 := HS6.out.box.cell; have HX6 := Lib.hid (HX.out.below hb6); have HXI6 := Lib.hid (HXI.out.below hb6); clear hb6)
            | (go_at_call 8; (with_reducible refine (all_stable _ p N _ HS6.out.prog HV.out HN.out hN12 h1000).mono ?_); rintro e w7 ⟨vL, LL, rfl, ⟨vs9, hsl, hin⟩, hao, hb7⟩; obtain ⟨aM, cM, rfl, -, -, hlM, hcM⟩ := hsl; have HS7 := Lib.hid (HS6.out.on hb7); have kx7 := HS7.out.box.cell; have HX7 := Lib.hid (HX6.out.below hb7); have HXI7 := Lib.hid (HXI6.out.below hb7); have HCM := Lib.hid hcM; have HIN := Lib.hid hin; have HAO := Lib.hid hao; clear hb7 hcM hin hao))
          clear kx5 kc5 kx6 kx7
          obtain ⟨wo, rfl⟩ : ∃ wo : World, wo = wr := ⟨_, rfl⟩
          go_wp2
          go_loopw [77] (fun i wx => Lo2Rel w7 LL.length i wx) (fun i _ => LL.length - (intOf i).toNat)
          case atStart => exact ⟨0, Nat.zero_le _, rfl, Below.refl _ _⟩
          case round =>
            obtain ⟨t, ht, rfl, hbr⟩ := hrel
            have HB8 := Lib.hid hbr
            have HS8 := Lib.hid (HS7.out.on hbr)
            clear hbr
            by_cases hlt : t < LL.length
            · obtain ⟨bL, oL, rfl, hbL, hc⟩ := HCM.out (by omega)
              have hmI := (HIN.out t hlt).below HB8.out
              have hkc := (bcell HB8.out _ _ hbL).trans (hc t hlt)
              obtain ⟨m, hm⟩ : ∃ m, LL.getD t [] = m := ⟨_, rfl⟩
              have hmm : m ∈ LL := by
                rw [← hm, List.getD_eq_getElem?_getD, List.getElem?_eq_getElem hlt]
                exact List.getElem_mem hlt
              obtain ⟨q, hq, e9, hst⟩ := HAO.out.mem.1 hmm
              have hset : setQ p.n m = true := by
                rw [e9]
                exact setQ_of (subL_sorted _ _) (fun x hx => by have := subL_range _ _ x hx; have := HN.out; omega)
              have hho : holdsC c (extA p m) = true := stabD_clause HV.out hset hst HVB.out (fun x hx => by
                have hb1 : (clauseP L).1.bound = 1 := by
                  have h := HVB.out
                  unfold validC at h
                  simp only [Bool.and_eq_true, decide_eq_true_eq] at h
                  rw [HCP.out]
                  exact h.2.2.2.1
                have hx2 := (clauseP_mem HPL.out (Nat.le_trans (setL_len L) hsz) hb1 x).1 (by rw [HCP.out]; exact hx)
                have := HRG.out x hx2
                exact ⟨this.1, by have := HVN.out; omega⟩)
              have HHO := Lib.hid hho
              rw [hm] at hmI
              obtain ⟨am, cm, e8, -⟩ := hmI.form
              rw [e8] at hkc hmI
              have HMI := Lib.hid hmI
              clear hmI hc hho hset hst hm e8 e9 hmm
              go_upto_region 24 with fail
              have kp : ∀ e : Ext wr, ∀ o, e.world.cell? ⟨w.heap.size, o, none⟩ = _ := fun e o => (bcell e.below _ o HS8.out.box.lt).trans (HS8.out.box.cell o)
              have kq : ∀ e : Ext wr, ∀ o, e.world.cell? ⟨bx, o, none⟩ = _ := fun e o => (bcell (bon HB8.out e.below) _ o HX7.out.lt).trans (HX7.out.cell o)
              refine wp_region_perm' (lo27Φ (extA p m)) (fun i => i == 3 || i == 4) (by kernel_rfl) (by kernel_rfl) (by kernel_rfl) (lo27Φ_later _) ?_
              iterate 3 (refine walkP_calm rfl rfl rfl (fun K hK => ?_); go_big_quiet_op; refine hK _ ?_; clear hK K)
              refine walkP_mem rfl rfl (fun wa hba hFa => ?_) (fun v lo hi l g h => ?_)
              · go_simp
                exact (extend_any _ _ p m _ (HS8.out.prog.below hba) (HMI.out.below hba)).mono (fun e w2 ⟨a, c, h1, h2, h3⟩ => ⟨_, h1, h3, ⟨_, _, _, rfl⟩, h2⟩)
              obtain ⟨_, ⟨_, _, _, rfl⟩, -⟩ := h
              simp only [Act.put, List.setIfInBounds_toArray, List.set_cons_succ, List.set_cons_zero]
              refine walkP_mem rfl rfl (fun wa hba hFa => ?_) (fun v lo hi l g h => ?_)
              · have f3 := hFa _ (.head _) (by kernel_rfl)
                obtain ⟨-, f3⟩ := f3
                go_simp
                exact (holds_any _ _ c _ _ ((HXI7.out.below HB8.out).below hba) f3).mono (fun e w2 ⟨h1, h2⟩ => ⟨_, h1.trans (by rw [HHO.out]), h2, rfl⟩)
              obtain ⟨_, rfl⟩ := h
              simp only [Act.put, List.setIfInBounds_toArray, List.set_cons_succ, List.set_cons_zero]
              iterate 1 (refine walkP_calm rfl rfl rfl (fun K hK => ?_); go_big_quiet_op; refine hK _ ?_; clear hK K)
              intro wx hbx hF hI hP
              have HBX2 := Lib.hid hbx
              clear hF hI hP hbx
              go_wp2_with fail
              first
                | (go_roundw
                   case rel => (exact ⟨t + 1, hlt, by go_num, bon HB8.out HBX2.out⟩)
                   case measure => (simp [intOf]; omega))
                | (refine ⟨?_, ?_⟩
                   · (exact ⟨t + 1, hlt, by go_num, bon HB8.out HBX2.out⟩)
                   · (simp [intOf]; omega))
            · go_wp2_with (go_at_call 14; (with_reducible refine (awake27_any _).mono ?_); rintro e w9 ⟨rfl, hb9⟩; have HS9 := Lib.hid (HS8.out.on hb9); have kx9 := HS9.out.box.cell; clear hb9)
              go_ret
              exact ⟨rfl, HS9.out.below⟩
theorem sound27_law {W : World} {vp vl : Value} {p : GP} {l : List Int} (hP : ProgIs W vp p) (x : Int) (hx : (Lit.int .u8 x).wf = true) (hL : Ints W vl l) :
    Calls Tryz.prog 5 #[vp, .int .u8 x, vl] W fun e w' => e = .returned (.bool true) ∧ Below W.heap.size W w' := lo27_walk vp vl p l x W hP hL (bounds_u8 hx)
end Go.Proofs.YtjodocheiejkeaaGreatDoor
namespace Go.Proofs.YtjodocheiejkeaaGreatDoor
open Go.RowKit Go.WideShapes
section
variable {H : Type} {enc : TypeId × Value → H} {w : World} {r : Reach} {b0 : Nat} {v : Value} {d : DataW H} {q : List MemPlace}
set_option maxRecDepth 100000 in
theorem arg_Ints (hv : Value.okWide Tryz.prog w r b0 23 v) (h : DataW.Trod enc Tryz.prog w 0 (fun _ => true) true 23 v d q) (hw : ∀ m ∈ d.weights Tryz.prog 23, m ≤ reachBytes) : ∃ l, Ints w v l := by
  obtain ⟨a, n, c, rfl⟩ := okWide_slice Tryz.underlying23 hv
  have hr := arg_reads h hw
  obtain ⟨v', l, he, hp⟩ := open_Ints hr
  have : Value.slice a n c = v' := by simpa [Value.cells] using he
  subst this
  exact ⟨l, hp⟩
end
end Go.Proofs.YtjodocheiejkeaaGreatDoor
