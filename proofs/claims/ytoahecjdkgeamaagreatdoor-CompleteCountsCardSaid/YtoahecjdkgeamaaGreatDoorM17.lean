/- My texts FrameB, Ct26, Bd26, CpS, merged. -/
import Derived.Test.YtoahecjdkgeamaaGreatDoorM16
import Derived.Test.YtoahecjdkgeamaaGreatDoorM08
import Derived.Test.YtoahecjdkgeamaaGreatDoorM14
import Derived.Test.YtoahecjdkgeamaaGreatDoorM07
import Derived.Test.YtoahecjdkgeamaaGreatDoorM12

/- More arguments of a statement, opened: a list of ints, a constraint. -/
namespace Go.Proofs.YtoahecjdkgeamaaGreatDoor
open Go.RowKit Go.WideShapes

section
variable {H : Type} {enc : TypeId × Value → H} {w : World} {r : Reach} {b0 : Nat} {v : Value} {d : DataW H} {q : List MemPlace}

set_option maxRecDepth 100000 in
theorem arg_Ints (hv : Value.okWide Tryz.prog w r b0 23 v) (h : DataW.Trod enc Tryz.prog w 0 (fun _ => true) true 23 v d q) (hw : ∀ m ∈ d.weights Tryz.prog 23, m ≤ reachBytes) : ∃ l, Ints w v l := by
  obtain ⟨a, n, c, rfl⟩ := okWide_slice Tryz.underlying23 hv
  have hr := arg_reads h hw
  obtain ⟨v', l, he, hp⟩ := open_Ints hr
  have : Value.slice a n c = v' := by simpa [Value.cells] using he
  subst this
  exact ⟨l, hp⟩
end

end Go.Proofs.YtoahecjdkgeamaaGreatDoor

/- ostlerlaw26.CompleteCounts returns true and writes nothing that was there. -/
namespace Go.Proofs.YtoahecjdkgeamaaGreatDoor
open Go.RowKit


def CtRel (p : GP) (w : World) (vn vs vr vm : Value) (want i : Value) (wx : World) : Prop :=
  ∃ k : Nat, k ≤ p.rules.length ∧ i = .int .i64 k ∧ want = .int .i64 (p.n + (compNs p k : Int)) ∧ LwSt w p vn vs vr vm wx
def CtRel2 (p : GP) (w W : World) (vn vs vr vm : Value) (n : Nat) (i : Value) (wx : World) : Prop :=
  ∃ k : Nat, k ≤ n ∧ i = .int .i64 k ∧ LwSt w p vn vs vr vm wx ∧ Below W.heap.size W wx

theorem compNs_small {p : GP} (hf : fewB p = true) : ∀ k, k ≤ p.rules.length → compNs p k ≤ 100 * k
  | 0, _ => by simp [compNs]
  | k + 1, hk => by
    have ih := compNs_small hf k (by omega)
    have hk2 : fewAt (ixR p.rules k) = true := by
      unfold fewB at hf
      simp only [Bool.and_eq_true] at hf
      exact allR_get hf.2 k (by omega)
    unfold fewAt at hk2
    simp only [Bool.and_eq_true, decide_eq_true_eq] at hk2
    have e : compNs p (k + 1) = compNs p k + compN (ixR p.rules k) := rfl
    have : compN (ixR p.rules k) ≤ 30 := by
      unfold compN
      split <;> split <;> omega
    omega

set_option maxHeartbeats 4000000 in
set_option maxRecDepth 100000 in
theorem ct26_walk (vp : Value) (p : GP) (w : World) (hP : ProgIs w vp p) :
    Calls Tryz.prog 5 #[vp] w fun e w' => e = .returned (.bool true) ∧ Below w.heap.size w w' := by
  have hP0 := hP
  obtain ⟨vn, vs, vr, vm, rfl, hPS⟩ := hP
  have hpn := hPS.n
  unfold InI at hpn
  obtain ⟨ar, cr, rfl, -, hlr, -, hcr⟩ := hPS.rules.form
  have HCR := Lib.hid hcr
  have HS0 := Lib.hid (LwSt.start hP0)
  clear hP0 hPS hcr
  go_enter Tryz.func5, Tryz.ntmps5
  go_upto_region 1 with fail
  have kx0 := HS0.out.box.cell
  generalize w.alloc (.cells #[.int .i64 p.n, vn, vs, .slice ar p.rules.length cr, vm] 27) = W at *
  cases hfw : fewB p with
  | false =>
    have HFW := Lib.hid hfw
    clear hfw
    go_wp2_with (first | (go_at_call 9; (with_reducible refine (few_any _ p _ HS0.out.prog).mono ?_); rintro e w1 ⟨h1, hb1⟩; rw [HFW.out] at h1; subst h1; have HS1 := Lib.hid (HS0.out.on hb1); have kx1 := HS1.out.box.cell; clear hb1) | (go_at_call 10; (with_reducible refine (awake26_any _).mono ?_); rintro e w9 ⟨rfl, hb9⟩; have HS9 := Lib.hid (HS1.out.on hb9); have kx9 := HS9.out.box.cell; clear hb9))
    go_ret
    exact ⟨rfl, HS9.out.below⟩
  | true =>
    have HFW := Lib.hid hfw
    have HNS := Lib.hid (compNs_small hfw)
    have hfl := few_len hfw
    clear hfw
    by_cases hv : validE p = 0
    · have hve : (validE p != 0) = false := by simp [hv]
      have HV := Lib.hid hv
      have hn0 := (validP hv).n
      have HFI := Lib.hid (compV_valid hv).fine
      have HVA : Hid (varsI p = p.n + p.rules.length) := Lib.hid (by unfold varsI; rw [if_pos hv])
      obtain ⟨nC, hnC⟩ : ∃ n, (compL p).length = n := ⟨_, rfl⟩
      have HNC := Lib.hid hnC
      have HNW : Hid (((nC : Int) != p.n + (compNs p p.rules.length : Int)) = false) := Lib.hid (by
        have := compL_len p
        rw [hnC] at this
        simp only [bne_eq_false_iff_eq]
        omega)
      have hnCb : nC ≤ 2000 := by
        have := compL_len p
        have := HNS.out p.rules.length (Nat.le_refl _)
        omega
      clear hv hnC
      go_upto_region 6 with (first | (go_at_call 9; (with_reducible refine (few_any _ p _ HS0.out.prog).mono ?_); rintro e w1 ⟨h1, hb1⟩; rw [HFW.out] at h1; subst h1; have HS1 := Lib.hid (HS0.out.on hb1); have kx1 := HS1.out.box.cell; clear hb1) | (go_at_call 22; (with_reducible refine (valid_any _ p w1 HS1.out.prog).mono ?_); rintro e w2 ⟨rfl, hb2⟩; have HS2 := Lib.hid (HS1.out.on hb2); have kx2 := HS2.out.box.cell; clear hb2) | (go_at_call 12; (with_reducible refine (compl_valid HV.out _ w2 HS2.out.prog HNC.out).mono ?_); rintro e w3 ⟨ao, co, rfl, ho, hb3⟩; have HS3 := Lib.hid (HS2.out.on hb3); have kx3 := HS3.out.box.cell; have HO := Lib.hid ho; obtain ⟨ao2, co2, e2, -, -, -, hco⟩ := ho.form; rw [HNC.out] at e2; simp only [Value.slice.injEq] at e2; obtain ⟨rfl, -, rfl⟩ := e2; have HCO := Lib.hid hco; clear hb3 ho hco))
      clear kx0 kx1 kx2
      go_loopw [5, 31] (fun v i wx => CtRel p w vn vs (.slice ar p.rules.length cr) vm v i wx ∧ Below w3.heap.size w3 wx) (fun _ i _ => p.rules.length - (intOf i).toNat)
      case atStart => exact ⟨⟨0, Nat.zero_le _, rfl, by simp [compNs], HS3.out⟩, Below.refl _ _⟩
      case round =>
        obtain ⟨⟨k, hk, rfl, rfl, hst⟩, hb3⟩ := hrel
        have HSR := Lib.hid hst
        have HB3 := Lib.hid hb3
        clear hb3
        by_cases hlt : k < p.rules.length
        · obtain ⟨b, off, rfl, hbl, hc⟩ := HCR.out (by omega)
          obtain ⟨vh, vb, vw, ⟨k0, k1, k2, k3, k4, k5⟩, hsl⟩ := hc k hlt
          have hbw := hst.below
          have q0 := (bcell hbw _ _ hbl).trans k0
          have q1 := (bcell hbw _ _ hbl).trans k1
          have q2 := (bcell hbw _ _ hbl).trans k2
          have q3 := (bcell hbw _ _ hbl).trans k3
          have q4 := (bcell hbw _ _ hbl).trans k4
          have q5 := (bcell hbw _ _ hbl).trans k5
          obtain ⟨a3, c3, rfl, -, hl3, -, -⟩ := hsl.head.form
          obtain ⟨a4, c4, rfl, -, hl4, -, -⟩ := hsl.body.form
          obtain ⟨a5, c5, rfl, -, hl5, -, -⟩ := hsl.wts.form
          have hns := HNS.out k hk
          have HNX : Hid ((compNs p (k + 1) : Int) = compNs p k + ((if (ixR p.rules k).sum then 2 else (ixR p.rules k).body.length + 1 : Nat) + (if (ixR p.rules k).choice then 0 else 1 : Nat) : Int)) := Lib.hid (by
            show ((compNs p k + compN (ixR p.rules k) : Nat) : Int) = _
            unfold compN
            push_cast
            rfl)
          clear hc hbw k0 k1 k2 k3 k4 k5 hst
          generalize ixR p.rules k = r at *
          obtain ⟨ch, hd, sm, bd, bod, wt⟩ := r
          dsimp only at *
          cases sm <;> cases ch <;> go_wp2 <;> first
                                                 | (go_roundw
                                                    case rel => (exact ⟨⟨k + 1, hlt, by go_num, by rw [HNX.out]; simp; omega, HSR.out.alloc _⟩, bal HB3.out _⟩)
                                                    case measure => (simp [intOf]; omega))
                                                 | (refine ⟨?_, ?_⟩
                                                    · (exact ⟨⟨k + 1, hlt, by go_num, by rw [HNX.out]; simp; omega, HSR.out.alloc _⟩, bal HB3.out _⟩)
                                                    · (simp [intOf]; omega))
        · obtain rfl : k = p.rules.length := by omega
          have kx3 := hst.box.cell
          clear hst
          have hnw := HNW.out
          go_upto_region 17 with fail
          have hz3 : w.heap.size < w3.heap.size := HS3.out.box.lt
          obtain ⟨wo, rfl⟩ : ∃ wo : World, wo = wr := ⟨_, rfl⟩
          go_loopw [61] (fun i wx => CtRel2 p w w3 vn vs (.slice ar p.rules.length cr) vm nC i wx) (fun i _ => nC - (intOf i).toNat)
          case atStart => exact ⟨0, Nat.zero_le _, rfl, HSR.out, HB3.out⟩
          case round =>
            clear kx3
            obtain ⟨k, hk2, rfl, hst, hb4⟩ := hrel
            have HSK := Lib.hid hst
            have HB4 := Lib.hid hb4
            clear hst
            by_cases hlt2 : k < nC
            · obtain ⟨b, off, rfl, hbl, hc⟩ := HCO.out (by rw [HNC.out]; omega)
              obtain ⟨vl, vk, hcc, hsl⟩ := hc k (by rw [HNC.out]; exact hlt2)
              have HFK := Lib.hid (HFI.out (ixC (compL p) k) (by
                have := HNC.out
                unfold ixC
                rw [List.getD_eq_getElem?_getD, List.getElem?_eq_getElem (by omega)]
                exact List.getElem_mem _))
              generalize ixC (compL p) k = c at *
              obtain ⟨k0, k1, k2⟩ := hcc.below hb4 hbl
              obtain ⟨al, cl, rfl, -, hll, -, hcl⟩ := (hsl.lits.below hb4).form
              obtain ⟨ak, ck, rfl, -⟩ := hsl.coefs.form
              have hal := bal (Below.refl wr.heap.size wr) (.cells #[.slice al c.lits.length cl, .slice ak c.coefs.length ck, .int .i64 c.bound] 40)
              have HPB := Lib.hid (hsl.is.below (bon hb4 hal))
              have HBC := Lib.hid (Blk.new wr [.slice al c.lits.length cl, .slice ak c.coefs.length ck, .int .i64 c.bound] 40)
              have HCL := Lib.hid hcl
              have HB5 := Lib.hid (bon hb4 hal)
              have HAL := Lib.hid hal
              have HS5 := Lib.hid (HSK.out.on hal)
              clear hb4 hc hcc hsl hcl hal
              have hzr : wr.heap.size < (wr.alloc (.cells #[.slice al c.lits.length cl, .slice ak c.coefs.length ck, .int .i64 c.bound] 40)).heap.size := by simp
              go_upto_region 21 with (go_at_call 25; (with_reducible refine (pbValid_any _ c _ HPB.out).mono ?_); rintro e w6 ⟨e6, hb6⟩; rw [HFK.out.1] at e6; subst e6; have HS6 := Lib.hid (HS5.out.on hb6); have kc6 := (HBC.out.below hb6).cell; have HB6 := Lib.hid (bon HB5.out hb6); have HBA := Lib.hid (bon HAL.out hb6); have hz6 : wr.heap.size < w6.heap.size := (HBC.out.below hb6).lt; clear hb6)
              obtain ⟨wo2, rfl⟩ : ∃ wo : World, wo = wr := ⟨_, rfl⟩
              go_upto_region 22 with fail
              clear kc6
              go_loopw [71] (fun i wx => CtRel2 p w w6 vn vs (.slice ar p.rules.length cr) vm c.lits.length i wx) (fun i _ => c.lits.length - (intOf i).toNat)
              case atStart => exact ⟨0, Nat.zero_le _, rfl, HS6.out, Below.refl _ _⟩
              case round =>
                obtain ⟨j, hj, rfl, hst, hb7⟩ := hrel
                have HSJ := Lib.hid hst
                have HB7 := Lib.hid hb7
                have kxj := hst.box.cell
                clear hst
                by_cases hlt3 : j < c.lits.length
                · obtain ⟨bl, ol, rfl, hbl2, hcc2⟩ := HCL.out (by omega)
                  have q1 := (bcell (bon HBA.out hb7) _ _ hbl2).trans (hcc2 j hlt3)
                  have hx := HFK.out.2 _ (ix_mem hlt3)
                  have hmx : (decide (max (ix c.lits j) (-(ix c.lits j)) > p.n + (p.rules.length : Int))) = false := decide_eq_false (by omega)
                  have hxa : -100000 ≤ ix c.lits j ∧ ix c.lits j ≤ 100000 := by omega
                  clear hb7 hcc2
                  go_wp2_with (go_at_call 14; (with_reducible refine (varsI_any _ p wr HSJ.out.prog).mono ?_); rintro e w8 ⟨e8, hb8⟩; rw [HVA.out] at e8; subst e8; have HS8 := Lib.hid (HSJ.out.on hb8); have HB8 := Lib.hid (bon HB7.out hb8); clear hb8)
                  first
                    | (go_roundw
                       case rel => (exact ⟨j + 1, hlt3, by go_num, HS8.out, HB8.out⟩)
                       case measure => (simp [intOf]; omega))
                    | (refine ⟨?_, ?_⟩
                       · (exact ⟨j + 1, hlt3, by go_num, HS8.out, HB8.out⟩)
                       · (simp [intOf]; omega))
                · obtain rfl : j = c.lits.length := by omega
                  clear hb7
                  go_wp2
                  first
                    | (go_roundw
                       case rel => (exact ⟨k + 1, hlt2, by go_num, HSJ.out, bon HB6.out HB7.out⟩)
                       case measure => (simp [intOf]; omega))
                    | (refine ⟨?_, ?_⟩
                       · (exact ⟨k + 1, hlt2, by go_num, HSJ.out, bon HB6.out HB7.out⟩)
                       · (simp [intOf]; omega))
            · obtain rfl : k = nC := by omega
              clear hb4
              go_wp2_with (go_at_call 10; (with_reducible refine (awake26_any _).mono ?_); rintro e w9 ⟨rfl, hb9⟩; have HS9 := Lib.hid (HSK.out.on hb9); clear hb9)
              go_ret
              exact ⟨rfl, HS9.out.below⟩
    · have hve : (validE p != 0) = true := by simp [hv]
      clear hv
      go_wp2_with (first | (go_at_call 9; (with_reducible refine (few_any _ p _ HS0.out.prog).mono ?_); rintro e w1 ⟨h1, hb1⟩; rw [HFW.out] at h1; subst h1; have HS1 := Lib.hid (HS0.out.on hb1); have kx1 := HS1.out.box.cell; clear hb1) | (go_at_call 22; (with_reducible refine (valid_any _ p w1 HS1.out.prog).mono ?_); rintro e w2 ⟨rfl, hb2⟩; have HS2 := Lib.hid (HS1.out.on hb2); have kx2 := HS2.out.box.cell; clear hb2) | (go_at_call 10; (with_reducible refine (awake26_any _).mono ?_); rintro e w9 ⟨rfl, hb9⟩; have HS9 := Lib.hid (HS2.out.on hb9); have kx9 := HS9.out.box.cell; clear hb9))
      go_ret
      exact ⟨rfl, HS9.out.below⟩

theorem counts26_law {W : World} {vp : Value} {p : GP} (hP : ProgIs W vp p) :
    Calls Tryz.prog 5 #[vp] W fun e W' => e = .returned (.bool true) ∧ Below W.heap.size W W' :=
  ct26_walk vp p W hP

end Go.Proofs.YtoahecjdkgeamaaGreatDoor

/- ostlerlaw26.CompleteBodies returns true and writes nothing that was there. -/
namespace Go.Proofs.YtoahecjdkgeamaaGreatDoor
open Go.RowKit

/-! ### Subset -/
theorem subL_mem (bits : Int) : ∀ (k : Nat) (x : Nat), 1 ≤ x → x ≤ k → ((x : Int) ∈ subL bits k ↔ bitAt bits (x - 1) = true)
  | 0, x, h1, h2 => by omega
  | k + 1, x, h1, h2 => by
    unfold subL
    by_cases hx : x ≤ k
    · have ih := subL_mem bits k x h1 hx
      cases hb : bitAt bits k with
      | true =>
        simp only [if_true, List.mem_append, List.mem_singleton]
        exact ⟨fun h => h.elim ih.1 (fun h => by omega), fun h => .inl (ih.2 h)⟩
      | false => simpa using ih
    · obtain rfl : x = k + 1 := by omega
      have hr := subL_range bits k
      rw [Nat.add_sub_cancel]
      cases hb : bitAt bits k with
      | true => simp
      | false =>
        simp only [Bool.false_eq_true, if_false, iff_false]
        exact fun h => by have := hr _ (by simpa using h); push_cast at this; omega

theorem subL_set (bits : Int) {n : Int} (_hn : 0 ≤ n) : setQ n (subL bits n.toNat) = true := by
  unfold setQ
  refine allR_true fun j hj => ?_
  unfold setTo
  have h1 := subL_range bits n.toNat _ (ix_mem hj)
  rw [decide_eq_true (show 1 ≤ ix (subL bits n.toNat) j ∧ ix (subL bits n.toNat) j ≤ n by omega), Bool.true_and, Bool.or_eq_true]
  cases j with
  | zero => exact .inl rfl
  | succ j =>
    refine .inr (decide_eq_true ?_)
    rw [Nat.add_sub_cancel, ix_get (by omega), ix_get hj]
    exact List.pairwise_iff_getElem.1 (subL_sorted bits n.toNat) j (j + 1) (by omega) hj (by omega)

theorem and_one_u16 (x : Int) : Go.bits .and .u16 x 1 = x % 2 := by
  unfold Go.bits
  simp only [BitVec.toNat_and, BitVec.toNat_ofInt]
  have e : ((1 : Int) % ((2 ^ IntKind.u16.bits : Nat) : Int)).toNat = 1 := by decide
  rw [e, Nat.and_one_is_mod]
  have e2 : ((2 ^ IntKind.u16.bits : Nat) : Int) = 65536 := by decide
  rw [e2, IntKind.wrap_u16]
  omega
theorem bit_test16 {bits : Int} {k : Nat} : (Go.bits .and .u16 (bits / 2 ^ k) 1 == 1) = bitAt bits k := by
  rw [and_one_u16]
  unfold bitAt
  rw [Bool.eq_iff_iff, beq_iff_eq, decide_eq_true_eq]


def Bd26Rel (p : GP) (w W : World) (vn vs vr vm : Value) (n lo : Nat) (i : Value) (wx : World) : Prop :=
  ∃ k : Nat, k ≤ n ∧ i = .int .i64 ((k + lo : Nat) : Int) ∧ LwSt w p vn vs vr vm wx ∧ Below W.heap.size W wx

def Bd26Rel2 (p : GP) (w W : World) (vn vs vr vm : Value) (i : Value) (wx : World) : Prop :=
  ∃ k : Nat, k ≤ p.rules.length ∧ i = .int .i64 k ∧ LwSt w p vn vs vr vm wx ∧ Below W.heap.size W wx

set_option maxHeartbeats 4000000 in
set_option maxRecDepth 100000 in
theorem bd26_walk (vp : Value) (p : GP) (bits : Int) (w : World) (hP : ProgIs w vp p) (hbits : 0 ≤ bits ∧ bits ≤ 65535) :
    Calls Tryz.prog 4 #[vp, .int .u16 bits] w fun e w' => e = .returned (.bool true) ∧ Below w.heap.size w w' := by
  have hP0 := hP
  obtain ⟨vn, vs, vr, vm, rfl, hPS⟩ := hP
  have hpn := hPS.n
  unfold InI at hpn
  obtain ⟨ar, cr, rfl, -, hlr, -, hcr⟩ := hPS.rules.form
  have HCR := Lib.hid hcr
  have HS0 := Lib.hid (LwSt.start hP0)
  clear hP0 hPS hcr
  go_enter Tryz.func4, Tryz.ntmps4
  go_upto_region 1 with fail
  have kx0 := HS0.out.box.cell
  generalize w.alloc (.cells #[.int .i64 p.n, vn, vs, .slice ar p.rules.length cr, vm] 27) = W at *
  cases hfw : fewB p with
  | false =>
    have HFW := Lib.hid hfw
    clear hfw
    go_wp2_with (first | (go_at_call 9; (with_reducible refine (few_any _ p _ HS0.out.prog).mono ?_); rintro e w1 ⟨h1, hb1⟩; rw [HFW.out] at h1; subst h1; have HS1 := Lib.hid (HS0.out.on hb1); have kx1 := HS1.out.box.cell; clear hb1) | (go_at_call 10; (with_reducible refine (awake26_any _).mono ?_); rintro e w9 ⟨rfl, hb9⟩; have HS9 := Lib.hid (HS1.out.on hb9); have kx9 := HS9.out.box.cell; clear hb9))
    go_ret
    exact ⟨rfl, HS9.out.below⟩
  | true =>
    have HFW := Lib.hid hfw
    have hfl := few_len hfw
    clear hfw
    by_cases hv : validE p = 0
    · have hve : (validE p != 0) = false := by simp [hv]
      have HV := Lib.hid hv
      have hn0 := (validP hv).n
      have hset := subL_set bits hn0.1
      have HSET := Lib.hid hset
      obtain ⟨S, hS⟩ : ∃ S, subL bits p.n.toNat = S := ⟨_, rfl⟩
      rw [hS] at hset HSET
      have HSS := Lib.hid hS
      have hEX : extA p S = (List.range (p.n.toNat + p.rules.length)).map (extAt p S) := by unfold extA; rw [if_pos ⟨hv, hset⟩]
      have HEX := Lib.hid hEX
      obtain ⟨nA, hnA⟩ : ∃ n, (extA p S).length = n := ⟨_, rfl⟩
      have hnA2 : (nA : Int) = p.n + p.rules.length := by rw [← hnA, hEX]; simp; omega
      have hnb : ((nA : Int) != p.n + (p.rules.length : Int)) = false := by simp [hnA2]
      have HNA := Lib.hid hnA
      clear hv hset hEX hnA hS
      go_upto_region 7 with (first
        | (go_at_call 9; (with_reducible refine (few_any _ p _ HS0.out.prog).mono ?_); rintro e w1 ⟨h1, hb1⟩; rw [HFW.out] at h1; subst h1; have HS1 := Lib.hid (HS0.out.on hb1); have kx1 := HS1.out.box.cell; clear hb1)
        | (go_at_call 22; (with_reducible refine (valid_any _ p w1 HS1.out.prog).mono ?_); rintro e w2 ⟨rfl, hb2⟩; have HS2 := Lib.hid (HS1.out.on hb2); have kx2 := HS2.out.box.cell; clear hb2)
        | (go_at_call 18; (with_reducible refine (extend_len HNA.out _ _ w3 HS3.out.prog HI3.out).mono ?_); rintro e w4 ⟨ae, ce, rfl, hy, hb4⟩; have HS4 := Lib.hid (HS3.out.on hb4); have kx4 := HS4.out.box.cell; have HY4 := Lib.hid hy; have HI4 := Lib.hid (HI3.out.below hb4); clear hb4 hy)
        | (go_at_call 23; (with_reducible refine (subset_int p.n bits ⟨hn0.1, by omega⟩ w2).mono ?_); rintro e w3 ⟨vS, rfl, hq, hb3⟩; rw [HSS.out] at hq; obtain ⟨aS, cS, rfl⟩ := hq.slen; have HS3 := Lib.hid (HS2.out.on hb3); have kx3 := HS3.out.box.cell; have HI3 := Lib.hid (hq.ints (by have := subL_len bits p.n.toNat; rw [HSS.out] at this; omega)); clear hb3 hq))
      obtain ⟨⟨ax, cx, ey, -, -, -, hyc⟩, -⟩ := id HY4.out
      simp only [Value.slice.injEq] at ey
      obtain ⟨rfl, -, rfl⟩ := ey
      rw [HNA.out] at hyc
      have HYC := Lib.hid hyc
      have hnp : 0 < nA ∨ nA = 0 := by omega
      clear hyc kx0 kx1 kx2 kx3 kx4
      obtain ⟨nn, hnn⟩ : ∃ nn : Nat, p.n = nn := ⟨p.n.toNat, by omega⟩
      have HNN := Lib.hid hnn
      have hnn2 : nn ≤ 10 ∧ (nA : Int) = nn + p.rules.length ∧ p.n.toNat = nn := by omega
      clear hnn
      go_upto_region 8 with fail
      go_loopw [7] (fun i wx => Bd26Rel p w w4 vn vs (.slice ar p.rules.length cr) vm nn 1 i wx) (fun i _ => nn + 1 - (intOf i).toNat)
      case atStart => exact ⟨0, Nat.zero_le _, rfl, HS4.out, Below.refl _ _⟩
      case round =>
        obtain ⟨k, hk, rfl, hst, hb5⟩ := hrel
        have HSR := Lib.hid hst
        have HB5 := Lib.hid hb5
        have kxr := hst.box.cell
        clear hst
        by_cases hlt : k < nn
        · have hle : ((k + 1 : Nat) : Int) ≤ p.n := by have := HNN.out; omega
          obtain ⟨b, off, rfl, hbl, hc⟩ := HYC.out (by omega)
          have hlr : b < wr.heap.size := Nat.lt_of_lt_of_le hbl hb5.size
          have hbt := bit_test16 (bits := bits) (k := k)
          have hat : ix (extA p S) k = if bitAt bits k = true then 1 else -1 := by
            rw [HEX.out]
            unfold ix
            rw [List.getD_eq_getElem?_getD, List.getElem?_map, List.getElem?_range (by omega)]
            show extAt p S k = _
            unfold extAt
            rw [if_pos (by have := HNN.out; omega), ← HSS.out]
            have := subL_mem bits p.n.toNat (k + 1) (by omega) (by omega)
            push_cast at this
            try simp only [Nat.add_sub_cancel] at this
            by_cases hB : bitAt bits k = true
            · rw [if_pos (this.2 hB), if_pos hB]
            · rw [if_neg (fun h => hB (this.1 h)), if_neg hB]
          have hce := (bcell hb5 _ _ hbl).trans (hc k (by omega))
          have hk1 : ((k + 1 : Nat) : Int) - 1 = k := by omega
          have hmin : min k 64 = k := Nat.min_eq_left (by omega)
          rw [hat] at hce
          clear hat
          cases hb : bitAt bits k with
          | true =>
            rw [hb] at hbt hce
            have ke : ∀ e : Ext wr, e.world.cell? ⟨b, off + k, none⟩ = some (.int .i8 1) := fun e => (bcell e.below _ _ hlr).trans hce
            clear hce hc hb hb5
            go_wp2
            refine wp_region_ext (by kernel_rfl) (by kernel_rfl) ?_
            repeat (go_big_quiet_step (fail))
            refine wpQuiet_nil ?_
            intro w9 hw'
            obtain ⟨e9, he9⟩ := hw'
            have hb9 := e9.below
            rw [← he9] at hb9
            clear he9 e9
            try dsimp only
            go_wp2
            first
              | (go_roundw
                 case rel => (exact ⟨k + 1, hlt, by go_num, HSR.out.on hb9, bon HB5.out hb9⟩)
                 case measure => (simp [intOf]; omega))
              | (refine ⟨?_, ?_⟩
                 · (exact ⟨k + 1, hlt, by go_num, HSR.out.on hb9, bon HB5.out hb9⟩)
                 · (simp [intOf]; omega))
          | false =>
            rw [hb] at hbt hce
            have ke : ∀ e : Ext wr, e.world.cell? ⟨b, off + k, none⟩ = some (.int .i8 (-1)) := fun e => (bcell e.below _ _ hlr).trans hce
            clear hce hc hb hb5
            go_wp2
            refine wp_region_ext (by kernel_rfl) (by kernel_rfl) ?_
            repeat (go_big_quiet_step (fail))
            refine wpQuiet_nil ?_
            intro w9 hw'
            obtain ⟨e9, he9⟩ := hw'
            have hb9 := e9.below
            rw [← he9] at hb9
            clear he9 e9
            try dsimp only
            go_wp2
            first
              | (go_roundw
                 case rel => (exact ⟨k + 1, hlt, by go_num, HSR.out.on hb9, bon HB5.out hb9⟩)
                 case measure => (simp [intOf]; omega))
              | (refine ⟨?_, ?_⟩
                 · (exact ⟨k + 1, hlt, by go_num, HSR.out.on hb9, bon HB5.out hb9⟩)
                 · (simp [intOf]; omega))
        · obtain rfl : nn = k := by omega
          have hle : ¬ ((nn + 1 : Nat) : Int) ≤ p.n := by have := HNN.out; omega
          clear hb5
          go_upto_region 13 with fail
          obtain ⟨wo, rfl⟩ : ∃ wo : World, wo = wr := ⟨_, rfl⟩
          clear kxr
          go_loopw [59] (fun i wx => Bd26Rel2 p w w4 vn vs (.slice ar p.rules.length cr) vm i wx) (fun i _ => p.rules.length - (intOf i).toNat)
          case atStart => exact ⟨0, Nat.zero_le _, rfl, HSR.out, HB5.out⟩
          case round =>
            obtain ⟨i, hi, rfl, hst, hb6⟩ := hrel
            have HSI := Lib.hid hst
            have HB6 := Lib.hid hb6
            have kxi := hst.box.cell
            have hzi : w.heap.size < wr.heap.size := hst.box.lt
            clear hst
            by_cases hlt2 : i < p.rules.length
            · obtain ⟨b, off, rfl, hbl, hc⟩ := HCR.out (by omega)
              obtain ⟨vh, vb, vw, ⟨k0, k1, k2, k3, k4, k5⟩, hsl⟩ := hc i hlt2
              have hbw := HSI.out.below
              have q0 := (bcell hbw _ _ hbl).trans k0
              have q1 := (bcell hbw _ _ hbl).trans k1
              have q2 := (bcell hbw _ _ hbl).trans k2
              have q3 := (bcell hbw _ _ hbl).trans k3
              have q4 := (bcell hbw _ _ hbl).trans k4
              have q5 := (bcell hbw _ _ hbl).trans k5
              obtain ⟨a3, c3, rfl, -, hl3, -, -⟩ := hsl.head.form
              obtain ⟨a4, c4, rfl, -, hl4, -, -⟩ := hsl.body.form
              obtain ⟨a5, c5, rfl, -, hl5, -, -⟩ := hsl.wts.form
              have HSL := Lib.hid (hsl.below hbw)
              have HVI := Lib.hid (bodyV_valid HV.out hlt2)
              have HBO : Hid (bodyI p i = p.n + 1 + i) := Lib.hid (by unfold bodyI; rw [if_neg (by have := HV.out; omega)])
              obtain ⟨by', oy, rfl, hyl, hcy⟩ := HYC.out (by omega)
              have hat : ix (extA p S) (nn + i) = if bodyT (ixR p.rules i) S then 1 else -1 := by
                rw [HEX.out]
                unfold ix
                rw [List.getD_eq_getElem?_getD, List.getElem?_map, List.getElem?_range (by omega)]
                show extAt p S (nn + i) = _
                unfold extAt
                rw [if_neg (by have := HNN.out; omega), show nn + i - p.n.toNat = i by omega]
              have hce := (bcell hb6 _ _ hyl).trans (hcy (nn + i) (by omega))
              rw [hat] at hce
              clear hc hsl hbw k0 k1 k2 k3 k4 k5 hat hcy hb6
              have hti : p.n + 1 + (i : Int) - 1 = ((nn + i : Nat) : Int) := by have := HNN.out; omega
              have hnx : (p.n + 1 + (i : Int) != p.n + 1 + (i : Int)) = false := by simp
              generalize ixR p.rules i = r at *
              go_upto_region 16 with (go_at_call 15; (with_reducible refine (body_any _ p _ (HSI.out.alloc _).prog (i : Int) (by unfold InI; omega)).mono ?_); rintro e w7 ⟨e7, hb7⟩; rw [HBO.out] at e7; subst e7; have HS7 := Lib.hid ((HSI.out.alloc _).on hb7); have HB7 := Lib.hid (bon HB6.out (bon (bal (Below.refl wr.heap.size wr) _) hb7)); have HBX := Lib.hid ((Blk.new wr [.bool r.choice, .slice a3 r.head.length c3, .bool r.sum, .int .i64 r.bound, .slice a4 r.body.length c4, .slice a5 r.w.length c5] 51).below hb7); have HR7 : Hid (RuleIs w7 (.agg #[.bool r.choice, .slice a3 r.head.length c3, .bool r.sum, .int .i64 r.bound, .slice a4 r.body.length c4, .slice a5 r.w.length c5]) r) := Lib.hid ⟨_, _, _, rfl, HSL.out.below (bon (bal (Below.refl wr.heap.size wr) _) hb7)⟩; have hce7 := (bcell (bon (bal (Below.refl wr.heap.size wr) _) hb7) _ (oy + (nn + i)) (Nat.lt_of_lt_of_le hyl HB6.out.size)).trans hce; clear hb7)
              have hzy : by' < w7.heap.size := Nat.lt_of_lt_of_le hyl HB7.out.size
              have ky7 : ∀ e : Ext w7, ∀ o, e.world.cell? ⟨w.heap.size, o, none⟩ = _ := fun e o => (bcell e.below _ o HS7.out.box.lt).trans (HS7.out.box.cell o)
              have kb7 : ∀ e : Ext w7, ∀ o, e.world.cell? ⟨wr.heap.size, o, none⟩ = _ := fun e o => (bcell e.below _ o HBX.out.lt).trans (HBX.out.cell o)
              have HRB : Hid (∀ e : Ext w7, Calls Tryz.prog 24 #[.agg #[.bool r.choice, .slice a3 r.head.length c3, .bool r.sum, .int .i64 r.bound, .slice a4 r.body.length c4, .slice a5 r.w.length c5], .slice aS S.length cS] e.world fun e' w' => e' = .returned (.bool (bodyT r S)) ∧ Below e.world.heap.size e.world w') := Lib.hid fun e => rBody_any _ _ r S _ (HR7.out.below e.below) (HI4.out.below (bon HB7.out e.below)) (by have := subL_len bits p.n.toNat; rw [HSS.out] at this; omega) HVI.out
              cases hbt : bodyT r S with
              | true =>
                rw [hbt] at HRB hce7
                have ke : ∀ e : Ext w7, e.world.cell? ⟨by', oy + (nn + i), none⟩ = some (.int .i8 1) := fun e => (bcell e.below _ _ hzy).trans hce7
                clear hbt hce hce7
                refine wp_region_ext (by kernel_rfl) (by kernel_rfl) ?_
                repeat (go_big_quiet_step ((go_at_call 24; exact Calls.ext_of (HRB.out _))))
                refine wpQuiet_nil ?_
                intro w9 hw'
                obtain ⟨e9, he9⟩ := hw'
                have hb9 := e9.below
                rw [← he9] at hb9
                clear he9 e9
                try dsimp only
                go_wp2
                first
                  | (go_roundw
                     case rel => (exact ⟨i + 1, hlt2, by go_num, HS7.out.on hb9, bon HB7.out hb9⟩)
                     case measure => (simp [intOf]; omega))
                  | (refine ⟨?_, ?_⟩
                     · (exact ⟨i + 1, hlt2, by go_num, HS7.out.on hb9, bon HB7.out hb9⟩)
                     · (simp [intOf]; omega))
              | false =>
                rw [hbt] at HRB hce7
                have ke : ∀ e : Ext w7, e.world.cell? ⟨by', oy + (nn + i), none⟩ = some (.int .i8 (-1)) := fun e => (bcell e.below _ _ hzy).trans hce7
                clear hbt hce hce7
                refine wp_region_ext (by kernel_rfl) (by kernel_rfl) ?_
                repeat (go_big_quiet_step ((go_at_call 24; exact Calls.ext_of (HRB.out _))))
                refine wpQuiet_nil ?_
                intro w9 hw'
                obtain ⟨e9, he9⟩ := hw'
                have hb9 := e9.below
                rw [← he9] at hb9
                clear he9 e9
                try dsimp only
                go_wp2
                first
                  | (go_roundw
                     case rel => (exact ⟨i + 1, hlt2, by go_num, HS7.out.on hb9, bon HB7.out hb9⟩)
                     case measure => (simp [intOf]; omega))
                  | (refine ⟨?_, ?_⟩
                     · (exact ⟨i + 1, hlt2, by go_num, HS7.out.on hb9, bon HB7.out hb9⟩)
                     · (simp [intOf]; omega))
            · obtain rfl : i = p.rules.length := by omega
              have HB1 : Hid (bodyI p p.rules.length = 0) := Lib.hid (by unfold bodyI; rw [if_pos (.inr (.inl (Int.le_refl _)))])
              have HB2 : Hid (bodyI p (-1) = 0) := Lib.hid (by unfold bodyI; rw [if_pos (.inl (by decide))])
              have hil : InI (p.rules.length : Int) := by unfold InI; omega
              have HIL := Lib.hid hil
              clear hb6 hil
              go_wp2_with (first
                | (go_at_call 10; (with_reducible refine (awake26_any _).mono ?_); rintro e w9 ⟨rfl, hb9⟩; have HS9 := Lib.hid (HS8.out.on hb9); have kx9 := HS9.out.box.cell; clear hb9)
                | (go_at_call 15; (with_reducible refine (body_any _ p w7 HS7.out.prog (-1) (inI_small (by decide))).mono ?_); rintro e w8 ⟨e8, hb8⟩; rw [HB2.out] at e8; subst e8; have HS8 := Lib.hid (HS7.out.on hb8); have kx8 := HS8.out.box.cell; clear hb8)
                | (go_at_call 15; (with_reducible refine (body_any _ p wr HSI.out.prog _ HIL.out).mono ?_); rintro e w7 ⟨e7, hb7⟩; rw [HB1.out] at e7; subst e7; have HS7 := Lib.hid (HSI.out.on hb7); have kx7 := HS7.out.box.cell; clear hb7))
              go_ret
              exact ⟨rfl, HS9.out.below⟩
    · have hve : (validE p != 0) = true := by simp [hv]
      clear hv
      go_wp2_with (first | (go_at_call 9; (with_reducible refine (few_any _ p _ HS0.out.prog).mono ?_); rintro e w1 ⟨h1, hb1⟩; rw [HFW.out] at h1; subst h1; have HS1 := Lib.hid (HS0.out.on hb1); have kx1 := HS1.out.box.cell; clear hb1) | (go_at_call 22; (with_reducible refine (valid_any _ p w1 HS1.out.prog).mono ?_); rintro e w2 ⟨rfl, hb2⟩; have HS2 := Lib.hid (HS1.out.on hb2); have kx2 := HS2.out.box.cell; clear hb2) | (go_at_call 10; (with_reducible refine (awake26_any _).mono ?_); rintro e w9 ⟨rfl, hb9⟩; have HS9 := Lib.hid (HS2.out.on hb9); have kx9 := HS9.out.box.cell; clear hb9))
      go_ret
      exact ⟨rfl, HS9.out.below⟩

theorem bodies26_law {W : World} {vp : Value} {p : GP} (hP : ProgIs W vp p) (x : Int) (hx : (Lit.int .u16 x).wf = true) :
    Calls Tryz.prog 4 #[vp, .int .u16 x] W fun e W' => e = .returned (.bool true) ∧ Below W.heap.size W W' :=
  bd26_walk vp p x W hP (bounds_u16 hx)

end Go.Proofs.YtoahecjdkgeamaaGreatDoor

/- The completion and supported sets (plain): the stage's theorem. -/
namespace Go.Proofs.YtoahecjdkgeamaaGreatDoor

/-- Every variable has a value. -/
def Total (a : List Int) : Prop := ∀ j, j < a.length → ix a j = 1 ∨ ix a j = -1

theorem onB_pos {a : List Int} (h : Total a) {n : Nat} (h1 : 1 ≤ n) (h2 : n ≤ a.length) : onB a (n : Int) = decide (0 < ix a (n - 1)) ∧ onB a (-(n : Int)) = decide (ix a (n - 1) < 0) := by
  have hp := offB_pos a n h1
  have hn := offB_neg a n
  rw [decide_eq_true h2, Bool.true_and] at hp hn
  unfold onB valI
  rw [Int.neg_neg]
  rcases h (n - 1) (by omega) with e | e
  · rw [e] at hp hn ⊢
    rw [hp, hn]
    decide
  · rw [e] at hp hn ⊢
    rw [hp, hn]
    decide

/-- The truth of an assignment; beyond its variables, that of the positive literals. -/
def tOf (a : List Int) (l : Int) : Bool := if l.natAbs ≤ a.length then onB a l else decide (0 < l)

theorem tOf_tot {a : List Int} (h : Total a) : Tot (tOf a) := fun l hl => by
  unfold tOf
  rw [Int.natAbs_neg]
  split
  · rename_i hn
    obtain ⟨n, h1, e⟩ : ∃ n : Nat, 1 ≤ n ∧ (l = n ∨ l = -(n : Int)) := ⟨l.natAbs, by omega, by omega⟩
    have hn' : n ≤ a.length := by omega
    obtain ⟨g1, g2⟩ := onB_pos h h1 hn'
    rcases e with rfl | rfl
    · rw [g1, g2]
      rcases h (n - 1) (by omega) with e | e <;> rw [e] <;> decide
    · rw [Int.neg_neg, g1, g2]
      rcases h (n - 1) (by omega) with e | e <;> rw [e] <;> decide
  · rcases Int.lt_or_gt_of_ne hl with h0 | h0
    · rw [decide_eq_true (show 0 < -l by omega), decide_eq_false (show ¬ 0 < l by omega)]; rfl
    · rw [decide_eq_false (show ¬ 0 < -l by omega), decide_eq_true (show 0 < l by omega)]; rfl

theorem sumW_congr {t u : Int → Bool} : ∀ {l : List (Int × Int)}, (∀ x ∈ l, t x.1 = u x.1) → sumW t l = sumW u l
  | [], _ => rfl
  | x :: l, h => by simp only [sumW, h x (.head _), sumW_congr (l := l) fun y hy => h y (.tail _ hy)]

/-- All constraints hold. -/
theorem all_holds {p : GP} {a : List Int} (hv : validE p = 0) (ht : Total a) (hN : p.n + (p.rules.length : Int) = a.length) : (∀ c ∈ compL p, holdsC c a = true) ↔ CompT p (tOf a) := by
  have hC := compV_valid hv
  rw [← hC.sat (tOf_tot ht)]
  have : ∀ c ∈ compL p, holdsC c a = satC (tOf a) c := fun c hc => by
    obtain ⟨h1, h2⟩ := hC.fine c hc
    unfold holdsC satC
    rw [h1, Bool.true_and, sumW_congr (t := onB a) (u := tOf a) fun x hx => ?_]
    have := h2 x.1 (List.of_mem_zip hx).1
    unfold tOf
    rw [if_pos (by omega)]
  exact ⟨fun h c hc => by rw [← this c hc]; exact h c hc, fun h c hc => by rw [this c hc]; exact h c hc⟩

theorem setQ_mem {n : Int} {m : List Int} (h : setQ n m = true) {x : Int} (hx : x ∈ m) : 1 ≤ x ∧ x ≤ n := by
  obtain ⟨j, hj, rfl⟩ := mem_ix.1 hx
  unfold setQ at h
  have := allR_get h j hj
  unfold setTo at this
  simp only [Bool.and_eq_true, decide_eq_true_eq] at this
  exact this.1

theorem sumLK_wsum {t : Int → Bool} {m : List Int} {r : GR} : ∀ k, k ≤ r.body.length → (∀ j, j < k → t (ix r.body j) = litT m (ix r.body j)) → sumLK t r.body r.w k = wsum m r k
  | 0, _, _ => rfl
  | k + 1, hk, h => by simp only [sumLK, wsum, sumLK_wsum k (by omega) fun j hj => h j (by omega), h k (by omega)]

theorem bodyTT_eq {t : Int → Bool} {m : List Int} {r : GR} (h : ∀ j, j < r.body.length → t (ix r.body j) = litT m (ix r.body j)) : bodyTT t r = bodyT r m := by
  unfold bodyTT bodyT
  rw [sumLK_wsum _ (Nat.le_refl _) h, allR_cong h]

/-- The atoms of m are those that a makes true. -/
def AgreeM (p : GP) (a m : List Int) : Prop := ∀ x : Nat, 1 ≤ x → (x : Int) ≤ p.n → ((x : Int) ∈ m ↔ 0 < ix a (x - 1))

section
variable {p : GP} {a m : List Int}

theorem tOf_lit (ht : Total a) (hN : p.n + (p.rules.length : Int) = a.length) (hm : AgreeM p a m) {x : Int} (h0 : x ≠ 0) (hx : -p.n ≤ x ∧ x ≤ p.n) : tOf a x = litT m x := by
  obtain ⟨n, h1, e⟩ : ∃ n : Nat, 1 ≤ n ∧ (x = n ∨ x = -(n : Int)) := ⟨x.natAbs, by omega, by omega⟩
  obtain ⟨g1, g2⟩ := onB_pos ht h1 (by omega)
  have h2 := hm n h1 (by omega)
  unfold tOf litT
  rw [if_pos (by omega)]
  rcases e with rfl | rfl
  · rw [if_pos (by omega), g1]
    exact decide_eq_decide.2 h2.symm
  · rw [if_neg (by omega), g2, Int.neg_neg]
    rcases ht (n - 1) (by omega) with e | e <;> rw [e] at h2 ⊢
    · rw [decide_eq_true (h2.2 (by decide))]; decide
    · rw [decide_eq_false (fun h => absurd (h2.1 h) (by decide))]; decide

theorem tOf_body (ht : Total a) (hN : p.n + (p.rules.length : Int) = a.length) {i : Nat} (hi : i < p.rules.length) (hn : 0 ≤ p.n) : tOf a (p.n + 1 + i) = decide (0 < ix a (p.n.toNat + i)) := by
  obtain ⟨n, hnn⟩ := Int.eq_ofNat_of_zero_le hn
  have := (onB_pos ht (n := n + 1 + i) (by omega) (by omega)).1
  unfold tOf
  rw [if_pos (by omega), show p.n + 1 + (i : Int) = ((n + 1 + i : Nat) : Int) by omega, this, show n + 1 + i - 1 = p.n.toNat + i by omega]

theorem ext_eq (hv : validE p = 0) (hset : setQ p.n m = true) (ht : Total a) (hN : p.n + (p.rules.length : Int) = a.length) (hm : AgreeM p a m) : a = extA p m ↔ ∀ i, i < p.rules.length → decide (0 < ix a (p.n.toNat + i)) = bodyT (ixR p.rules i) m := by
  have hn := (validP hv).n
  have hl : (extA p m).length = a.length := by
    unfold extA
    rw [if_pos ⟨hv, hset⟩]
    simp
    omega
  have hx : ∀ j, j < a.length → ix (extA p m) j = extAt p m j := fun j hj => by
    unfold extA ix
    rw [if_pos ⟨hv, hset⟩, List.getD_eq_getElem?_getD, List.getElem?_map, List.getElem?_range (by omega)]
    rfl
  have he : a = extA p m ↔ ∀ j, j < a.length → ix a j = extAt p m j := by
    constructor
    · intro e j hj
      rw [← hx j hj, ← e]
    · intro h
      refine eq_of_ix hl.symm fun j hj => ?_
      rw [h j hj, hx j hj]
  rw [he]
  constructor
  · intro h i hi
    rw [h _ (by omega)]
    unfold extAt
    rw [if_neg (by omega), show p.n.toNat + i - p.n.toNat = i by omega]
    cases bodyT (ixR p.rules i) m <;> decide
  · intro h j hj
    unfold extAt
    by_cases hjn : (j : Int) < p.n
    · rw [if_pos hjn]
      have h2 := hm (j + 1) (by omega) (by omega)
      rw [Nat.add_sub_cancel] at h2
      push_cast at h2
      rcases ht j hj with e | e
      · rw [e] at h2
        rw [if_pos (h2.2 (by decide)), e]
      · rw [e] at h2
        rw [if_neg (fun h => absurd (h2.1 h) (by decide)), e]
    · rw [if_neg hjn]
      have h2 := h (j - p.n.toNat) (by omega)
      rw [show p.n.toNat + (j - p.n.toNat) = j by omega] at h2
      rw [← h2]
      rcases ht j hj with e | e <;> rw [e] <;> decide

/-- The stage's theorem. -/
theorem comp_supported (hv : validE p = 0) (hset : setQ p.n m = true) (ht : Total a) (hN : p.n + (p.rules.length : Int) = a.length) (hm : AgreeM p a m) : CompT p (tOf a) ↔ suppB p m = true ∧ a = extA p m := by
  have hn := (validP hv).n
  have hC := compV_valid hv
  have hb : ∀ i, i < p.rules.length → bodyTT (tOf a) (ixR p.rules i) = bodyT (ixR p.rules i) m := fun i hi => bodyTT_eq fun j hj => by
    have := (hC.rule i hi).body _ (ix_mem hj)
    exact tOf_lit ht hN hm this.1 this.2
  have hh : ∀ i, i < p.rules.length → ∀ x ∈ (ixR p.rules i).head, tOf a x = decide (x ∈ m) := fun i hi x hx => by
    have := (hC.rule i hi).head x hx
    rw [tOf_lit ht hN hm (by omega) (by omega)]
    unfold litT
    rw [if_pos (by omega)]
  rw [ext_eq hv hset ht hN hm]
  constructor
  · rintro ⟨h1, h2, h3⟩
    have h4 : ∀ i, i < p.rules.length → tOf a (p.n + 1 + i) = bodyT (ixR p.rules i) m := fun i hi => (h1 i hi).trans (hb i hi)
    refine ⟨?_, fun i hi => by rw [← tOf_body ht hN hi hn.1]; exact h4 i hi⟩
    unfold suppB
    rw [Bool.and_eq_true]
    refine ⟨allR_true fun i hi => ?_, allR_true fun j hj => ?_⟩
    · unfold satT
      cases hc : (ixR p.rules i).choice with
      | true => rfl
      | false =>
        cases hbb : bodyT (ixR p.rules i) m with
        | false => rfl
        | true =>
          obtain ⟨x, hx, e⟩ := h2 i hi hc (by rw [h4 i hi, hbb])
          obtain ⟨j, hj, rfl⟩ := mem_ix.1 hx
          rw [hh i hi _ hx] at e
          rw [anyR_true j hj e]
          rfl
    · have hmj := setQ_mem hset (ix_mem hj)
      obtain ⟨i, hi, hx, e⟩ := h3 (ix m j) hmj.1 hmj.2 (by
        rw [tOf_lit ht hN hm (by omega) (by omega)]
        unfold litT
        rw [if_pos (by omega)]
        exact decide_eq_true (ix_mem hj))
      refine anyR_true i hi ?_
      rw [← h4 i hi, e, decide_eq_true hx]
      rfl
  · rintro ⟨h1, h2⟩
    have h4 : ∀ i, i < p.rules.length → tOf a (p.n + 1 + i) = bodyT (ixR p.rules i) m := fun i hi => by rw [tOf_body ht hN hi hn.1]; exact h2 i hi
    unfold suppB at h1
    rw [Bool.and_eq_true] at h1
    refine ⟨fun i hi => (h4 i hi).trans (hb i hi).symm, fun i hi hc e => ?_, fun x h5 h6 e => ?_⟩
    · have := allR_get h1.1 i hi
      unfold satT at this
      rw [hc, ← h4 i hi, e] at this
      obtain ⟨j, hj, e2⟩ := anyR_is (by simpa using this)
      exact ⟨_, ix_mem hj, by rw [hh i hi _ (ix_mem hj)]; exact e2⟩
    · rw [tOf_lit ht hN hm (by omega) (by omega)] at e
      unfold litT at e
      rw [if_pos (by omega), decide_eq_true_eq] at e
      obtain ⟨j, hj, rfl⟩ := mem_ix.1 e
      obtain ⟨i, hi, e2⟩ := anyR_is (allR_get h1.2 j hj)
      rw [Bool.and_eq_true, decide_eq_true_eq] at e2
      exact ⟨i, hi, e2.2, by rw [h4 i hi]; exact e2.1⟩
end

end Go.Proofs.YtoahecjdkgeamaaGreatDoor
