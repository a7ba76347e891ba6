/- My texts Wrg, Frame, FrameB, Subs, merged. -/
import Derived.Test.YthclpkhaenaknaaGreatDoorM16
import Derived.Test.YthclpkhaenaknaaGreatDoorM07
import Derived.Test.YthclpkhaenaknaaGreatDoorM04
import Derived.Deep.DeepCutAuto

/- ostlerlaw27.LoopsWrong returns true and writes nothing that was there. -/
namespace Go.Proofs.YthclpkhaenaknaaGreatDoor
open Go.RowKit

/-- The first k numbers are as a set of atoms of a valid program. -/
def goodTo (p : GP) (S : List Int) (k : Nat) : Prop := validE p = 0 ∧ 0 < S.length ∧ ∀ j, j < k → 1 ≤ ix S j ∧ ix S j ≤ p.n ∧ (j = 0 ∨ ix S (j - 1) < ix S j)

theorem good_set {p : GP} {S : List Int} (hv : validE p = 0) (h : setB' p.n S = true) : goodTo p S S.length := by
  unfold setB' at h
  rw [Bool.and_eq_true, decide_eq_true_eq] at h
  refine ⟨hv, h.2, fun j hj => ?_⟩
  have := allR_get h.1 j hj
  unfold setTo at this
  simp only [Bool.and_eq_true, Bool.or_eq_true, decide_eq_true_eq, beq_iff_eq] at this
  exact ⟨this.1.1, this.1.2, this.2⟩

structure WrSt (p : GP) (S L : List Int) (u : Int) (k : Nat) (fb ib nb : Bool) : Prop where
  fine : goodTo p S k → fb = true
  ins : ∀ j, j < k → ix S j = u → ib = true
  neg : ∀ j, j < k → ∀ i, i < L.length → 1 ≤ ix S j → ix L i = -(ix S j) → nb = true

theorem anyR_ex {n : Nat} {f : Nat → Bool} (h : anyR n f = true) : ∃ k, k < n ∧ f k = true := by
  apply Classical.byContradiction
  intro hn
  have : anyR n f = false := anyR_false (fun j hj => by
    cases e : f j with
    | false => rfl
    | true => exact (hn ⟨j, hj, e⟩).elim)
  rw [h] at this
  cases this

theorem unf_good {p : GP} {a S : List Int} (h : unfB p a S = true) : goodTo p S S.length := by
  unfold unfB at h
  rw [Bool.and_eq_true, Bool.and_eq_true, decide_eq_true_eq] at h
  exact good_set h.1 h.2.1

theorem val_good {p : GP} {S : List Int} {c : PBC} (h : validC p S c = true) : goodTo p S S.length := by
  unfold validC at h
  rw [Bool.and_eq_true, Bool.and_eq_true, decide_eq_true_eq] at h
  exact good_set h.1 h.2.1

theorem WrSt.no {p : GP} {a S L : List Int} {c : PBC} {u : Int} {fb ib nb : Bool} (h : WrSt p S L u S.length fb ib nb) (hf : fb = false) : unfB p a S = false ∧ validC p S c = false := by
  constructor
  · cases e : unfB p a S with
    | false => rfl
    | true => have := h.fine (unf_good e); rw [hf] at this; cases this
  · cases e : validC p S c with
    | false => rfl
    | true => have := h.fine (val_good e); rw [hf] at this; cases this

theorem WrSt.make {p : GP} {a S L : List Int} {u : Int} {fb ib nb : Bool} (h : WrSt p S L u S.length fb ib nb) (hf : fb = false ∨ ib = false) : makeP p a S u = (⟨[], [], 0⟩, 2) := by
  unfold makeP
  rw [if_neg]
  rw [Bool.and_eq_true, decide_eq_true_eq]
  rintro ⟨h1, h2⟩
  rcases hf with hf | hf
  · have := h.fine (unf_good h1); rw [hf] at this; cases this
  · obtain ⟨k, hk, e⟩ := mem_ix.1 h2
    have := h.ins k hk e; rw [hf] at this; cases this

theorem WrSt.valid {p : GP} {S : List Int} {c : PBC} {u : Int} {fb ib nb : Bool} (h : WrSt p S c.lits u S.length fb ib nb) (hv : validC p S c = true) : nb = true ∧ c.bound = 1 ∧ pbV c = true := by
  have hg := val_good hv
  unfold validC at hv
  rw [Bool.and_eq_true, Bool.and_eq_true, Bool.and_eq_true, Bool.and_eq_true, Bool.and_eq_true, decide_eq_true_eq, decide_eq_true_eq] at hv
  obtain ⟨-, -, hp, hb, hn, -⟩ := hv
  refine ⟨?_, hb, hp⟩
  obtain ⟨j, hj, e⟩ := anyR_ex hn
  unfold inB at e
  rw [decide_eq_true_eq] at e
  obtain ⟨i, hi, e2⟩ := mem_ix.1 e
  exact h.neg j hj i hi (hg.2.2 j hj).1 e2

def WrRel (p : GP) (S L : List Int) (u : Int) (w1 : World) (f i n x : Value) (wx : World) : Prop :=
  ∃ (k : Nat) (fb ib nb : Bool), k ≤ S.length ∧ x = .int .i64 k ∧ f = .bool fb ∧ i = .bool ib ∧ n = .bool nb ∧ WrSt p S L u k fb ib nb ∧ wx = w1

def WrRel2 (_p : GP) (S L : List Int) (_u : Int) (w1 : World) (k : Nat) (nb0 : Bool) (n x : Value) (wx : World) : Prop :=
  ∃ (j : Nat) (nb : Bool), j ≤ L.length ∧ x = .int .i64 j ∧ n = .bool nb ∧ (nb0 = true → nb = true) ∧ (∀ i, i < j → 1 ≤ ix S k → ix L i = -(ix S k) → nb = true) ∧ wx = w1

set_option maxHeartbeats 4000000 in
set_option maxRecDepth 100000 in
theorem wrong_walk (vp va vset vc : Value) (p : GP) (a S : List Int) (c : PBC) (u : Int) (w : World) (hP : ProgIs w vp p) (hA : Bytes8 w va a) (hS : Ints w vset S) (hC : PBIs w vc c) (hu : InI u) :
    Calls Tryz.prog 4 #[vp, va, vset, vc, .int .i64 u] w fun e w' => e = .returned (.bool true) ∧ Below w.heap.size w w' := by
  have hP0 := hP
  have hC0 := hC
  obtain ⟨vn, vs, vr, vm, rfl, hPS⟩ := hP
  have hpn := hPS.n
  obtain ⟨a1, c1, rfl, -, hl1, -, -⟩ := hPS.rules.form
  obtain ⟨a4, c4, rfl, -, hl4, -, hcellS⟩ := hS.form
  obtain ⟨a9, n9, c9, rfl⟩ : ∃ a9 n9 c9, va = .slice a9 n9 c9 := by obtain ⟨⟨x, y, e, -⟩, -⟩ := hA; exact ⟨_, _, _, e⟩
  obtain ⟨vl, vk, rfl, hL, hK, hbd⟩ := hC
  obtain ⟨a5, c5, rfl, -, hl5, -, hcellL⟩ := hL.form
  obtain ⟨a6, c6, rfl, -, hl6, -, -⟩ := hK.form
  have hal : Below w.heap.size w ((w.alloc (.cells #[.int .i64 p.n, vn, vs, .slice a1 p.rules.length c1, vm] 27)).alloc (.cells #[.slice a5 c.lits.length c5, .slice a6 c.coefs.length c6, .int .i64 c.bound] 30)) := bal (bal (Below.refl _ _) _) _
  have hb1 := (Blk.new w [.int .i64 p.n, vn, vs, .slice a1 p.rules.length c1, vm] 27).alloc (.cells #[.slice a5 c.lits.length c5, .slice a6 c.coefs.length c6, .int .i64 c.bound] 30)
  have hb2 := Blk.new2 w (.cells #[.int .i64 p.n, vn, vs, .slice a1 p.rules.length c1, vm] 27) [.slice a5 c.lits.length c5, .slice a6 c.coefs.length c6, .int .i64 c.bound] 30
  have HP := Lib.hid (hP0.below hal)
  have HA := Lib.hid (hA.below hal)
  have HS := Lib.hid (hS.below hal)
  have HC := Lib.hid (hC0.below hal)
  have HAL := Lib.hid hal
  have HBK := Lib.hid hb1
  have HBC := Lib.hid hb2
  have HFS := Lib.hid hS.2
  have HFL := Lib.hid hL.2
  have HCS := Lib.hid hcellS
  have HCL := Lib.hid hcellL
  have HU := Lib.hid hu
  unfold InI at hbd hu hpn
  clear hP0 hPS hA hS hC0 hL hK hal hb1 hb2 hcellS hcellL
  go_enter Tryz.func4, Tryz.ntmps4
  go_upto_region 1 with fail
  have kx := HBK.out.cell
  have kc := HBC.out.cell
  generalize (w.alloc (.cells #[.int .i64 p.n, vn, vs, .slice a1 p.rules.length c1, vm] 27)).alloc (.cells #[.slice a5 c.lits.length c5, .slice a6 c.coefs.length c6, .int .i64 c.bound] 30) = W at *
  cases hfw : fewB p with
  | false =>
    have HFW := Lib.hid hfw
    clear hfw
    go_wp2_with (first | (go_at_call 8; (with_reducible refine (few_any _ p _ HP.out).mono ?_); rintro e w1 ⟨h1, hb1⟩; rw [HFW.out] at h1; subst h1; have HB1 := Lib.hid hb1; have kx1 := fun o => (bcell hb1 _ o HBK.out.lt).trans (HBK.out.cell o); have kc1 := fun o => (bcell hb1 _ o HBC.out.lt).trans (HBC.out.cell o); clear hb1) | (go_at_call 9; (with_reducible refine (awake27_any _).mono ?_); rintro e w9 ⟨rfl, hb9⟩; have HB9 := Lib.hid hb9; clear hb9))
    go_ret
    exact ⟨rfl, HAL.out.trans ((bon HB1.out HB9.out).mono HAL.out.size)⟩
  | true =>
    have HFW := Lib.hid hfw
    clear hfw
    by_cases g1 : 12 < S.length
    · go_wp2_with (first | (go_at_call 8; (with_reducible refine (few_any _ p _ HP.out).mono ?_); rintro e w1 ⟨h1, hb1⟩; rw [HFW.out] at h1; subst h1; have HB1 := Lib.hid hb1; have kx1 := fun o => (bcell hb1 _ o HBK.out.lt).trans (HBK.out.cell o); have kc1 := fun o => (bcell hb1 _ o HBC.out.lt).trans (HBC.out.cell o); clear hb1) | (go_at_call 9; (with_reducible refine (awake27_any _).mono ?_); rintro e w9 ⟨rfl, hb9⟩; have HB9 := Lib.hid hb9; clear hb9))
      go_ret
      exact ⟨rfl, HAL.out.trans ((bon HB1.out HB9.out).mono HAL.out.size)⟩
    · by_cases g2 : 40 < c.lits.length
      · go_wp2_with (first | (go_at_call 8; (with_reducible refine (few_any _ p _ HP.out).mono ?_); rintro e w1 ⟨h1, hb1⟩; rw [HFW.out] at h1; subst h1; have HB1 := Lib.hid hb1; have kx1 := fun o => (bcell hb1 _ o HBK.out.lt).trans (HBK.out.cell o); have kc1 := fun o => (bcell hb1 _ o HBC.out.lt).trans (HBC.out.cell o); clear hb1) | (go_at_call 9; (with_reducible refine (awake27_any _).mono ?_); rintro e w9 ⟨rfl, hb9⟩; have HB9 := Lib.hid hb9; clear hb9))
        go_ret
        exact ⟨rfl, HAL.out.trans ((bon HB1.out HB9.out).mono HAL.out.size)⟩
      · by_cases g3 : 40 < c.coefs.length
        · go_wp2_with (first | (go_at_call 8; (with_reducible refine (few_any _ p _ HP.out).mono ?_); rintro e w1 ⟨h1, hb1⟩; rw [HFW.out] at h1; subst h1; have HB1 := Lib.hid hb1; have kx1 := fun o => (bcell hb1 _ o HBK.out.lt).trans (HBK.out.cell o); have kc1 := fun o => (bcell hb1 _ o HBC.out.lt).trans (HBC.out.cell o); clear hb1) | (go_at_call 9; (with_reducible refine (awake27_any _).mono ?_); rintro e w9 ⟨rfl, hb9⟩; have HB9 := Lib.hid hb9; clear hb9))
          go_ret
          exact ⟨rfl, HAL.out.trans ((bon HB1.out HB9.out).mono HAL.out.size)⟩
        · go_upto_region 3 with (go_at_call 8; (with_reducible refine (few_any _ p _ HP.out).mono ?_); rintro e w1 ⟨h1, hb1⟩; rw [HFW.out] at h1; subst h1; have HB1 := Lib.hid hb1; have kx1 := fun o => (bcell hb1 _ o HBK.out.lt).trans (HBK.out.cell o); have kc1 := fun o => (bcell hb1 _ o HBC.out.lt).trans (HBC.out.cell o); clear hb1)
          have HP1 := Lib.hid (HP.out.below HB1.out)
          clear kx kc
          go_cut [11] from 41 to 48 (fun s wx => ∃ fb : Bool, s = .bool fb ∧ (goodTo p S 0 → fb = true) ∧ Below w1.heap.size w1 wx)
          case first =>
            by_cases hv : validE p = 0
            · have hve : (validE p == 0) = true := by simp [hv]
              by_cases h0 : 0 < S.length
              · go_wp2_with (go_at_call 17; (with_reducible refine (valid_any _ p w1 HP1.out).mono ?_); rintro e w2 ⟨rfl, hb2⟩)
                go_meet
                case rel => exact ⟨_, rfl, fun h => by first | rfl | (simp; omega) | simp_all, hb2⟩
              · have HN : Hid (¬ goodTo p S 0) := Lib.hid (fun h => h0 h.2.1)
                go_wp2_with (go_at_call 17; (with_reducible refine (valid_any _ p w1 HP1.out).mono ?_); rintro e w2 ⟨rfl, hb2⟩)
                go_meet
                case rel => exact ⟨_, rfl, fun h => (HN.out h).elim, hb2⟩
            · have hve : (validE p == 0) = false := by simp [hv]
              have HN : Hid (¬ goodTo p S 0) := Lib.hid (fun h => hv h.1)
              go_wp2_with (go_at_call 17; (with_reducible refine (valid_any _ p w1 HP1.out).mono ?_); rintro e w2 ⟨rfl, hb2⟩)
              go_meet
              case rel => exact ⟨_, rfl, fun h => (HN.out h).elim, hb2⟩
          case rest =>
            obtain ⟨fb0, rfl, hf0, hbc⟩ := hcut
            have HF0 := Lib.hid hf0
            have HBC1 := Lib.hid (bon HB1.out hbc)
            have HBWc := Lib.hid (HAL.out.trans ((bon HB1.out hbc).mono HAL.out.size))
            have kx2 := fun o => (bcell HBC1.out _ o HBK.out.lt).trans (HBK.out.cell o)
            have kc2 := fun o => (bcell HBC1.out _ o HBC.out.lt).trans (HBC.out.cell o)
            clear hf0 hbc kx1 kc1
            go_upto_region 6 with fail
            go_loopw [11, 12, 13, 51] (fun f i n x wx => WrRel p S c.lits u wc f i n x wx) (fun _ _ _ x _ => S.length - (intOf x).toNat)
            case atStart => exact ⟨0, fb0, false, false, Nat.zero_le _, rfl, rfl, rfl, rfl, ⟨HF0.out, fun j hj => absurd hj (Nat.not_lt_zero _), fun j hj => absurd hj (Nat.not_lt_zero _)⟩, rfl⟩
            case round =>
              obtain ⟨k, fb, ib, nb, hk, rfl, rfl, rfl, rfl, hst, rfl⟩ := hrel
              have HST := Lib.hid hst
              clear hst
              by_cases hlt : k < S.length
              · obtain ⟨bS, oS, rfl, hbS, hcS⟩ := HCS.out (by omega)
                have hk1 := (bcell HBWc.out _ _ hbS).trans (hcS k hlt)
                have hk0 := fun h : 0 < k => (bcell HBWc.out _ _ hbS).trans (hcS (k - 1) (by omega))
                have hx := HFS.out k
                clear hcS
                go_upto_region 8 with fail
                go_cut [11] from 56 to 79 (fun s wx => ∃ fb2 : Bool, s = .bool fb2 ∧ (goodTo p S (k + 1) → fb2 = true) ∧ wx = wr)
                case first =>
                  cases fb with
                  | false =>
                    have HN : Hid (¬ goodTo p S (k + 1)) := Lib.hid (fun h => Bool.noConfusion (HST.out.fine ⟨h.1, h.2.1, fun j hj => h.2.2 j (by omega)⟩))
                    go_wp2_with fail
                    go_meet
                    case rel => exact ⟨_, rfl, fun h => (HN.out h).elim, rfl⟩
                  | true =>
                    by_cases q1 : 1 ≤ ix S k
                    · by_cases q2 : ix S k ≤ p.n
                      · by_cases q3 : k = 0
                        · have q3' : ((k : Int) == 0) = true := by simp [q3]
                          clear q3
                          go_wp2_with fail
                          go_meet
                          case rel => exact ⟨_, rfl, fun _ => by first | rfl | simp_all, rfl⟩
                        · have q3' : ((k : Int) == 0) = false := by simp [q3]
                          have q3p : 0 < k := by omega
                          have hkm := hk0 q3p
                          have hkm2 : wr.cell? ⟨bS, oS + ((k : Int) - 1).toNat, none⟩ = some (.int .i64 (ix S (k - 1))) := by rw [show ((k : Int) - 1).toNat = k - 1 by omega]; exact hkm
                          by_cases q4 : ix S (k - 1) < ix S k
                          · go_wp2_with fail
                            go_meet
                            case rel => exact ⟨_, rfl, fun _ => by first | rfl | (simp; omega) | simp_all, rfl⟩
                          · have HN : Hid (¬ goodTo p S (k + 1)) := Lib.hid (fun h => by have := (h.2.2 k (by omega)).2.2; omega)
                            go_wp2_with fail
                            go_meet
                            case rel => exact ⟨_, rfl, fun h => (HN.out h).elim, rfl⟩
                      · have HN : Hid (¬ goodTo p S (k + 1)) := Lib.hid (fun h => q2 (h.2.2 k (by omega)).2.1)
                        go_wp2_with fail
                        go_meet
                        case rel => exact ⟨_, rfl, fun h => (HN.out h).elim, rfl⟩
                    · have HN : Hid (¬ goodTo p S (k + 1)) := Lib.hid (fun h => q1 (h.2.2 k (by omega)).1)
                      go_wp2_with fail
                      go_meet
                      case rel => exact ⟨_, rfl, fun h => (HN.out h).elim, rfl⟩
                case rest =>
                  obtain ⟨fb2, rfl, hf2, hw2⟩ := hcut
                  have hw3 := hw2.symm
                  subst hw3
                  have HF2 := Lib.hid hf2
                  clear hf2 hk0
                  go_upto_region 9 with fail
                  go_cut [12] from 80 to 85 (fun s wx => ∃ ib2 : Bool, s = .bool ib2 ∧ (ib = true → ib2 = true) ∧ (ix S k = u → ib2 = true) ∧ wx = wr)
                  case first =>
                    cases ib with
                    | true =>
                      go_wp2_with fail
                      go_meet
                      case rel => exact ⟨_, rfl, fun _ => rfl, fun _ => rfl, rfl⟩
                    | false =>
                      go_wp2_with fail
                      go_meet
                      case rel => exact ⟨_, rfl, fun h => Bool.noConfusion h, fun h => by simp [h], rfl⟩
                  case rest =>
                    obtain ⟨ib2, rfl, hi2, hi3, hw4⟩ := hcut
                    have hw5 := hw4.symm
                    subst hw5
                    have HI2 := Lib.hid hi2
                    have HI3 := Lib.hid hi3
                    clear hi2 hi3
                    go_upto_region 11 with fail
                    have HWR : Hid (∀ o, wr.cell? ⟨w.heap.size + 1, o, none⟩ = _) := Lib.hid kc2
                    have HBWr := Lib.hid HBWc.out
                    generalize hwq : wr = wq at *
                    go_loopw [13, 89] (fun n x wx => WrRel2 p S c.lits u wq k nb n x wx) (fun _ x _ => c.lits.length - (intOf x).toNat)
                    case atStart => exact ⟨0, nb, Nat.zero_le _, rfl, rfl, fun h => h, fun i hi => absurd hi (Nat.not_lt_zero _), rfl⟩
                    case round =>
                      obtain ⟨j, nb2, hj, rfl, rfl, hn0, hn1, hw6⟩ := hrel
                      have HN0 := Lib.hid hn0
                      have HN1 := Lib.hid hn1
                      clear hn0 hn1
                      subst hw6
                      by_cases hltj : j < c.lits.length
                      · obtain ⟨bL, oL, rfl, hbL, hcL⟩ := HCL.out (by omega)
                        have hkL := (bcell HBWr.out _ _ hbL).trans (hcL j hltj)
                        have hy := HFL.out j
                        clear hcL
                        cases nb2 with
                        | true =>
                          go_wp2
                          first
                            | (go_roundw
                               case rel => (exact ⟨j + 1, true, hltj, by go_num, rfl, fun _ => rfl, fun _ _ _ _ => rfl, rfl⟩)
                               case measure => (simp [intOf]; omega))
                            | (refine ⟨?_, ?_⟩
                               · (exact ⟨j + 1, true, hltj, by go_num, rfl, fun _ => rfl, fun _ _ _ _ => rfl, rfl⟩)
                               · (simp [intOf]; omega))
                        | false =>
                          by_cases hx1 : 1 ≤ ix S k
                          · by_cases hq : ix c.lits j = -(ix S k)
                            · have hq' : (ix c.lits j == -(ix S k)) = true := by simp [hq]
                              clear hq
                              go_wp2
                              first
                                | (go_roundw
                                   case rel => (exact ⟨j + 1, true, hltj, by go_num, rfl, fun _ => rfl, fun _ _ _ _ => rfl, rfl⟩)
                                   case measure => (simp [intOf]; omega))
                                | (refine ⟨?_, ?_⟩
                                   · (exact ⟨j + 1, true, hltj, by go_num, rfl, fun _ => rfl, fun _ _ _ _ => rfl, rfl⟩)
                                   · (simp [intOf]; omega))
                            · have hq' : (ix c.lits j == -(ix S k)) = false := by simp [hq]
                              have HQ := Lib.hid hq
                              clear hq
                              go_wp2
                              first
                                | (go_roundw
                                   case rel => (exact ⟨j + 1, false, hltj, by go_num, rfl, HN0.out, fun i hi h1 h2 => by (by_cases e : i = j; (subst e; exact (HQ.out h2).elim); exact HN1.out i (by omega) h1 h2), rfl⟩)
                                   case measure => (simp [intOf]; omega))
                                | (refine ⟨?_, ?_⟩
                                   · (exact ⟨j + 1, false, hltj, by go_num, rfl, HN0.out, fun i hi h1 h2 => by (by_cases e : i = j; (subst e; exact (HQ.out h2).elim); exact HN1.out i (by omega) h1 h2), rfl⟩)
                                   · (simp [intOf]; omega))
                          · go_wp2
                            first
                              | (go_roundw
                                 case rel => (exact ⟨j + 1, _, hltj, by go_num, rfl, fun h => Bool.noConfusion (HN0.out h), fun _ _ h => absurd h hx1, rfl⟩)
                                 case measure => (simp [intOf]; omega))
                              | (refine ⟨?_, ?_⟩
                                 · (exact ⟨j + 1, _, hltj, by go_num, rfl, fun h => Bool.noConfusion (HN0.out h), fun _ _ h => absurd h hx1, rfl⟩)
                                 · (simp [intOf]; omega))
                      · go_wp2
                        obtain rfl : j = c.lits.length := by omega
                        first
                          | (go_roundw
                             case rel => (exact ⟨k + 1, fb2, ib2, nb2, hlt, by go_num, rfl, rfl, rfl, ⟨HF2.out, fun i hi e => by (by_cases e2 : i = k; (subst e2; exact HI3.out e); exact HI2.out (HST.out.ins i (by omega) e)), fun i hi q hq h1 h2 => by (by_cases e2 : i = k; (subst e2; exact HN1.out q hq h1 h2); exact HN0.out (HST.out.neg i (by omega) q hq h1 h2))⟩, by first | rfl | assumption | (rw [hwq])⟩)
                             case measure => (simp [intOf]; omega))
                          | (refine ⟨?_, ?_⟩
                             · (exact ⟨k + 1, fb2, ib2, nb2, hlt, by go_num, rfl, rfl, rfl, ⟨HF2.out, fun i hi e => by (by_cases e2 : i = k; (subst e2; exact HI3.out e); exact HI2.out (HST.out.ins i (by omega) e)), fun i hi q hq h1 h2 => by (by_cases e2 : i = k; (subst e2; exact HN1.out q hq h1 h2); exact HN0.out (HST.out.neg i (by omega) q hq h1 h2))⟩, by first | rfl | assumption | (rw [hwq])⟩)
                             · (simp [intOf]; omega))
              · obtain rfl : k = S.length := by omega
                have hb2 := HBC1.out
                have HP2 := Lib.hid (HP.out.below hb2)
                have HA2 := Lib.hid (HA.out.below hb2)
                have HS2 := Lib.hid (HS.out.below hb2)
                have HC2 := Lib.hid (HC.out.below hb2)
                have HLX2 := Lib.hid (Nat.lt_of_lt_of_le HBK.out.lt hb2.size)
                have HLC2 := Lib.hid (Nat.lt_of_lt_of_le HBC.out.lt hb2.size)
                clear hb2
                by_cases hfi : fb = false ∨ ib = false
                · have HMK := Lib.hid (HST.out.make (a := a) hfi)
                  go_upto_region 17 with (go_at_call 10; (with_reducible refine (make_any _ _ _ p a S u wr HP2.out HA2.out HS2.out HU.out).mono ?_); rintro e w3 ⟨vc, e1, hq, hb3⟩; rw [HMK.out] at e1 hq; subst e1; obtain ⟨vl, vk, rfl, hq1, hq2, -⟩ := hq; obtain ⟨al1, nl1, cl1, rfl⟩ := hq1.form; obtain ⟨ak1, nk1, ck1, rfl⟩ := hq2.form; have HB3 := Lib.hid hb3; clear hq1 hq2 hb3)
                  have hd := Blk.new w3 [.slice al1 nl1 cl1, .slice ak1 nk1 ck1, .int .i64 0] 30
                  have hal := bon HB3.out (bal (Below.refl w3.heap.size w3) (.cells #[.slice al1 nl1 cl1, .slice ak1 nk1 ck1, .int .i64 0] 30))
                  generalize w3.alloc (.cells #[.slice al1 nl1 cl1, .slice ak1 nk1 ck1, .int .i64 0] 30) = w4 at *
                  have HP4 := Lib.hid (HP2.out.below hal)
                  have HA4 := Lib.hid (HA2.out.below hal)
                  have HS4 := Lib.hid (HS2.out.below hal)
                  have HC4 := Lib.hid (HC2.out.below hal)
                  have kx4 := fun o => (bcell hal _ o HLX2.out).trans (kx2 o)
                  have kc4 := fun o => (bcell hal _ o HLC2.out).trans (kc2 o)
                  have kd4 := hd.cell
                  have HLX := Lib.hid (Nat.lt_of_lt_of_le HLX2.out hal.size)
                  have HLC := Lib.hid (Nat.lt_of_lt_of_le HLC2.out hal.size)
                  have HLD := Lib.hid hd.lt
                  have HBW4 := Lib.hid (HBWc.out.trans (hal.mono HBWc.out.size))
                  have HB4 := Lib.hid (Below.refl w4.heap.size w4)
                  clear hd hal kx2 kc2
                  cases fb with
                  | false =>
                    have HUN := Lib.hid (HST.out.no (a := a) (c := c) rfl).1
                    have HVN := Lib.hid (HST.out.no (a := a) (c := c) rfl).2
                    go_upto_region 19 with (first | (go_at_call 12; (with_reducible refine (unfounded_any _ _ _ p a S w4 HP4.out HA4.out HS4.out).mono ?_); rintro e w5 ⟨e1, hb5⟩; rw [HUN.out] at e1; subst e1; have HB5 := Lib.hid hb5; have kx5 := fun o => (bcell hb5 _ o HLX.out).trans (kx4 o); have kc5 := fun o => (bcell hb5 _ o HLC.out).trans (kc4 o); have kd5 := fun o => (bcell hb5 _ o HLD.out).trans (kd4 o); clear hb5) | (go_at_call 14; (with_reducible refine (lval_any _ _ _ p S c w5 (HP4.out.below HB5.out) (HS4.out.below HB5.out) (HC4.out.below HB5.out)).mono ?_); rintro e w6 ⟨e1, hb6⟩; rw [HVN.out] at e1; subst e1; have HB6 := Lib.hid (bon HB5.out hb6); have kx6 := fun o => (bcell HB6.out _ o HLX.out).trans (kx4 o); have kc6 := fun o => (bcell HB6.out _ o HLC.out).trans (kc4 o); have kd6 := fun o => (bcell HB6.out _ o HLD.out).trans (kd4 o); clear hb6))
                    go_wp2_with (first | (go_at_call 14; (with_reducible refine (lval_any _ _ _ p S c w6 (HP4.out.below HB6.out) (HS4.out.below HB6.out) (HC4.out.below HB6.out)).mono ?_); rintro e w7 ⟨e1, hb7⟩; rw [HVN.out] at e1; subst e1; have HB7 := Lib.hid (bon HB6.out hb7); have kc7 := fun o => (bcell HB7.out _ o HLC.out).trans (kc4 o); clear hb7) | (go_at_call 9; (with_reducible refine (awake27_any _).mono ?_); rintro e w9 ⟨rfl, hb9⟩; have HB9 := Lib.hid (bon HB7.out hb9); clear hb9))
                    go_ret
                    exact ⟨rfl, HBW4.out.trans (HB9.out.mono HBW4.out.size)⟩
                  | true =>
                    obtain rfl : ib = false := by simpa using hfi
                    go_upto_region 19 with fail
                    cases hvn : validC p S c with
                    | false =>
                      have HVN := Lib.hid hvn
                      clear hvn
                      go_wp2_with (first | (go_at_call 14; (with_reducible refine (lval_any _ _ _ p S c w4 (HP4.out.below HB4.out) (HS4.out.below HB4.out) (HC4.out.below HB4.out)).mono ?_); rintro e w7 ⟨e1, hb7⟩; rw [HVN.out] at e1; subst e1; have HB7 := Lib.hid (bon HB4.out hb7); have kc7 := fun o => (bcell HB7.out _ o HLC.out).trans (kc4 o); clear hb7) | (go_at_call 9; (with_reducible refine (awake27_any _).mono ?_); rintro e w9 ⟨rfl, hb9⟩; have HB9 := Lib.hid (bon HB7.out hb9); clear hb9))
                      go_ret
                      exact ⟨rfl, HBW4.out.trans (HB9.out.mono HBW4.out.size)⟩
                    | true =>
                      have HVN := Lib.hid hvn
                      clear hvn
                      obtain ⟨hn, hbd1, hpv⟩ := HST.out.valid HVN.out
                      subst hn
                      have hbd2 : (c.bound == 1) = true := by simp [hbd1]
                      have HPV := Lib.hid hpv
                      clear hpv hbd1
                      go_wp2_with (first | (go_at_call 14; (with_reducible refine (lval_any _ _ _ p S c w4 (HP4.out.below HB4.out) (HS4.out.below HB4.out) (HC4.out.below HB4.out)).mono ?_); rintro e w7 ⟨e1, hb7⟩; rw [HVN.out] at e1; subst e1; have HB7 := Lib.hid (bon HB4.out hb7); have kc7 := fun o => (bcell HB7.out _ o HLC.out).trans (kc4 o); clear hb7) | (go_at_call 18; (with_reducible refine (pbValid_any _ c w7 (HC4.out.below HB7.out)).mono ?_); rintro e w8 ⟨e1, hb8⟩; rw [HPV.out] at e1; subst e1; have HB8 := Lib.hid (bon HB7.out hb8); clear hb8) | (go_at_call 9; (with_reducible refine (awake27_any _).mono ?_); rintro e w9 ⟨rfl, hb9⟩; have HB9 := Lib.hid (bon HB8.out hb9); clear hb9))
                      go_ret
                      exact ⟨rfl, HBW4.out.trans (HB9.out.mono HBW4.out.size)⟩
                · have hfi1 : fb = true := by cases fb <;> simp_all
                  have hfi2 : ib = true := by cases ib <;> simp_all
                  subst hfi1 hfi2
                  clear hfi
                  obtain ⟨⟨c3, er⟩, hmk⟩ : ∃ m, makeP p a S u = m := ⟨_, rfl⟩
                  have HMK := Lib.hid hmk
                  clear hmk
                  go_upto_region 17 with (go_at_call 10; (with_reducible refine (make_any _ _ _ p a S u wr HP2.out HA2.out HS2.out HU.out).mono ?_); rintro e w3 ⟨vc, e1, hq, hb3⟩; rw [HMK.out] at e1 hq; subst e1; obtain ⟨vl, vk, rfl, hq1, hq2, -⟩ := hq; obtain ⟨al1, nl1, cl1, rfl⟩ := hq1.form; obtain ⟨ak1, nk1, ck1, rfl⟩ := hq2.form; have HB3 := Lib.hid hb3; clear hq1 hq2 hb3)
                  have hd := Blk.new w3 [.slice al1 nl1 cl1, .slice ak1 nk1 ck1, .int .i64 c3.bound] 30
                  have hal := bon HB3.out (bal (Below.refl w3.heap.size w3) (.cells #[.slice al1 nl1 cl1, .slice ak1 nk1 ck1, .int .i64 c3.bound] 30))
                  generalize w3.alloc (.cells #[.slice al1 nl1 cl1, .slice ak1 nk1 ck1, .int .i64 c3.bound] 30) = w4 at *
                  have HP4 := Lib.hid (HP2.out.below hal)
                  have HA4 := Lib.hid (HA2.out.below hal)
                  have HS4 := Lib.hid (HS2.out.below hal)
                  have HC4 := Lib.hid (HC2.out.below hal)
                  have kx4 := fun o => (bcell hal _ o HLX2.out).trans (kx2 o)
                  have kc4 := fun o => (bcell hal _ o HLC2.out).trans (kc2 o)
                  have kd4 := hd.cell
                  have HLX := Lib.hid (Nat.lt_of_lt_of_le HLX2.out hal.size)
                  have HLC := Lib.hid (Nat.lt_of_lt_of_le HLC2.out hal.size)
                  have HLD := Lib.hid hd.lt
                  have HBW4 := Lib.hid (HBWc.out.trans (hal.mono HBWc.out.size))
                  have HB4 := Lib.hid (Below.refl w4.heap.size w4)
                  clear hd hal kx2 kc2
                  go_upto_region 19 with fail
                  cases hvn : validC p S c with
                  | false =>
                    have HVN := Lib.hid hvn
                    clear hvn
                    go_wp2_with (first | (go_at_call 14; (with_reducible refine (lval_any _ _ _ p S c w4 (HP4.out.below HB4.out) (HS4.out.below HB4.out) (HC4.out.below HB4.out)).mono ?_); rintro e w7 ⟨e1, hb7⟩; rw [HVN.out] at e1; subst e1; have HB7 := Lib.hid (bon HB4.out hb7); have kc7 := fun o => (bcell HB7.out _ o HLC.out).trans (kc4 o); clear hb7) | (go_at_call 9; (with_reducible refine (awake27_any _).mono ?_); rintro e w9 ⟨rfl, hb9⟩; have HB9 := Lib.hid (bon HB7.out hb9); clear hb9))
                    go_ret
                    exact ⟨rfl, HBW4.out.trans (HB9.out.mono HBW4.out.size)⟩
                  | true =>
                    have HVN := Lib.hid hvn
                    clear hvn
                    obtain ⟨hn, hbd1, hpv⟩ := HST.out.valid HVN.out
                    subst hn
                    have hbd2 : (c.bound == 1) = true := by simp [hbd1]
                    have HPV := Lib.hid hpv
                    clear hpv hbd1
                    go_wp2_with (first | (go_at_call 14; (with_reducible refine (lval_any _ _ _ p S c w4 (HP4.out.below HB4.out) (HS4.out.below HB4.out) (HC4.out.below HB4.out)).mono ?_); rintro e w7 ⟨e1, hb7⟩; rw [HVN.out] at e1; subst e1; have HB7 := Lib.hid (bon HB4.out hb7); have kc7 := fun o => (bcell HB7.out _ o HLC.out).trans (kc4 o); clear hb7) | (go_at_call 18; (with_reducible refine (pbValid_any _ c w7 (HC4.out.below HB7.out)).mono ?_); rintro e w8 ⟨e1, hb8⟩; rw [HPV.out] at e1; subst e1; have HB8 := Lib.hid (bon HB7.out hb8); clear hb8) | (go_at_call 9; (with_reducible refine (awake27_any _).mono ?_); rintro e w9 ⟨rfl, hb9⟩; have HB9 := Lib.hid (bon HB8.out hb9); clear hb9))
                    go_ret
                    exact ⟨rfl, HBW4.out.trans (HB9.out.mono HBW4.out.size)⟩

theorem wrong_law {W : World} {vp va vset vc : Value} {p : GP} {a S : List Int} {c : PBC} (hP : ProgIs W vp p) (hA : Bytes8 W va a) (hS : Ints W vset S) (hC : PBIs W vc c) (x : Int) (hw : (Lit.int .i64 x).wf = true) :
    Calls Tryz.prog 4 #[vp, va, vset, vc, .int .i64 x] W fun e w' => e = .returned (.bool true) ∧ Below W.heap.size W w' :=
  wrong_walk vp va vset vc p a S c x W hP hA hS hC (wf_i64 hw)

end Go.Proofs.YthclpkhaenaknaaGreatDoor

/- The arguments of a statement, opened. -/
namespace Go.Proofs.YthclpkhaenaknaaGreatDoor
open Go.RowKit Go.WideShapes

section
variable {H : Type} {enc : TypeId × Value → H} {w : World} {r : Reach} {b0 : Nat} {v : Value} {d : DataW H} {q : List MemPlace}

theorem arg_reads {P : Program} {t : TypeId} (h : DataW.Trod enc P w 0 (fun _ => true) true t v d q) (hw : ∀ m ∈ d.weights P t, m ≤ reachBytes) : Reads enc P w t v.cells.toList := by
  obtain ⟨fuel, hf⟩ := h
  exact ⟨fuel, _, hf, hw⟩

set_option maxRecDepth 100000 in
theorem arg_Prog (hv : Value.okWide Tryz.prog w r b0 27 v) (h : DataW.Trod enc Tryz.prog w 0 (fun _ => true) true 27 v d q) (hw : ∀ m ∈ d.weights Tryz.prog 27, m ≤ reachBytes) : ∃ p, ProgIs w v p := by
  obtain ⟨cs, rfl, -⟩ := okWide_struct Tryz.underlying27 hv
  have hr := arg_reads h hw
  obtain ⟨p, vn, vs, vr, vm, he, hp⟩ := open_Prog hr
  refine ⟨p, vn, vs, vr, vm, ?_, hp⟩
  have : cs.toList = [.int .i64 p.n, vn, vs, vr, vm] := by simpa [Value.cells] using he
  congr 1
  exact Array.toList_inj.1 this

set_option maxRecDepth 100000 in
theorem arg_Bytes8 (hv : Value.okWide Tryz.prog w r b0 28 v) (h : DataW.Trod enc Tryz.prog w 0 (fun _ => true) true 28 v d q) (hw : ∀ m ∈ d.weights Tryz.prog 28, m ≤ reachBytes) : ∃ l, Bytes8 w v l := by
  obtain ⟨a, n, c, rfl⟩ := okWide_slice Tryz.underlying28 hv
  have hr := arg_reads h hw
  obtain ⟨v', l, he, hp⟩ := open_Bytes8 hr
  have : Value.slice a n c = v' := by simpa [Value.cells] using he
  subst this
  exact ⟨l, hp⟩
end

end Go.Proofs.YthclpkhaenaknaaGreatDoor

/- More arguments of a statement, opened: a list of ints, a constraint. -/
namespace Go.Proofs.YthclpkhaenaknaaGreatDoor
open Go.RowKit Go.WideShapes

theorem cellsPB : Tryz.prog.cellsOf 30 = 3 := by kernel_rfl

section
variable {H : Type} {enc : TypeId × Value → H} {w : World} {r : Reach} {b0 : Nat} {v : Value} {d : DataW H} {q : List MemPlace}

theorem open_PB {cs : List Value} (h : Reads enc Tryz.prog w 30 cs) : ∃ (m : PBC) (vl vk : Value), cs = [vl, vk, .int .i64 m.bound] ∧ Ints w vl m.lits ∧ Ints w vk m.coefs ∧ InI m.bound := by
  have hl := open_len Tryz.underlying30 h
  have f0 := open_at Tryz.underlying30 h 0 23 0 1 rfl cellsIs
  have f1 := open_at Tryz.underlying30 h 1 23 1 1 rfl cellsIs
  have f2 := open_at Tryz.underlying30 h 2 3 2 1 rfl cellsI
  rw [cellsPB] at hl
  obtain ⟨c0, c1, c2, rfl⟩ := three hl
  simp only [List.drop_succ_cons, List.drop_zero, List.take_succ_cons, List.take_zero] at f0 f1 f2
  obtain ⟨v0, l0, h0, g0⟩ := open_Ints f0
  obtain ⟨v1, l1, h1, g1⟩ := open_Ints f1
  obtain ⟨n2, h2, g2⟩ := open_int1 Tryz.underlying3 f2
  simp only [List.cons.injEq, and_true] at h0 h1 h2
  subst h0 h1 h2
  exact ⟨⟨l0, l1, n2⟩, _, _, rfl, g0, g1, wf_i64 g2⟩

set_option maxRecDepth 100000 in
theorem arg_PB (hv : Value.okWide Tryz.prog w r b0 30 v) (h : DataW.Trod enc Tryz.prog w 0 (fun _ => true) true 30 v d q) (hw : ∀ m ∈ d.weights Tryz.prog 30, m ≤ reachBytes) : ∃ c, PBIs w v c := by
  obtain ⟨cs, rfl, -⟩ := okWide_struct Tryz.underlying30 hv
  have hr := arg_reads h hw
  obtain ⟨m, vl, vk, he, h1, h2, h3⟩ := open_PB hr
  refine ⟨m, vl, vk, ?_, h1, h2, h3⟩
  have : cs.toList = [vl, vk, .int .i64 m.bound] := by simpa [Value.cells] using he
  congr 1
  exact Array.toList_inj.1 this

set_option maxRecDepth 100000 in
theorem arg_Ints (hv : Value.okWide Tryz.prog w r b0 23 v) (h : DataW.Trod enc Tryz.prog w 0 (fun _ => true) true 23 v d q) (hw : ∀ m ∈ d.weights Tryz.prog 23, m ≤ reachBytes) : ∃ l, Ints w v l := by
  obtain ⟨a, n, c, rfl⟩ := okWide_slice Tryz.underlying23 hv
  have hr := arg_reads h hw
  obtain ⟨v', l, he, hp⟩ := open_Ints hr
  have : Value.slice a n c = v' := by simpa [Value.cells] using he
  subst this
  exact ⟨l, hp⟩
end

end Go.Proofs.YthclpkhaenaknaaGreatDoor

/- ostlerlaw26.Subset: its contract. -/
namespace Go.Proofs.YthclpkhaenaknaaGreatDoor
open Go.RowKit

/-- Bit k of a number. -/
def bitAt (bits : Int) (k : Nat) : Bool := decide (bits / 2 ^ k % 2 = 1)
/-- The atoms among 1, .., k whose bits are set. -/
def subL (bits : Int) : Nat → List Int
  | 0 => []
  | k + 1 => if bitAt bits k then subL bits k ++ [(k : Int) + 1] else subL bits k

theorem subL_len (bits : Int) : ∀ k, (subL bits k).length ≤ k
  | 0 => by simp [subL]
  | k + 1 => by
    have := subL_len bits k
    unfold subL
    split
    · rw [List.length_append, List.length_singleton]; omega
    · omega

theorem subL_range (bits : Int) : ∀ k, ∀ x ∈ subL bits k, 1 ≤ x ∧ x ≤ k
  | 0, x, h => by simp [subL] at h
  | k + 1, x, h => by
    unfold subL at h
    split at h
    · rcases List.mem_append.1 h with h | h
      · have := subL_range bits k x h; omega
      · obtain rfl : x = (k : Int) + 1 := by simpa using h
        omega
    · have := subL_range bits k x h; omega

theorem subL_sorted (bits : Int) : ∀ k, (subL bits k).Pairwise (· < ·)
  | 0 => by simp [subL]
  | k + 1 => by
    unfold subL
    split
    · refine List.pairwise_append.2 ⟨subL_sorted bits k, by simp, fun x hx y hy => ?_⟩
      obtain rfl : y = (k : Int) + 1 := by simpa using hy
      have := subL_range bits k x hx
      omega
    · exact subL_sorted bits k

theorem and_one_i64 (x : Int) : Go.bits .and .i64 x 1 = x % 2 := by
  unfold Go.bits
  simp only [BitVec.toNat_and, BitVec.toNat_ofInt]
  have e : ((1 : Int) % ((2 ^ IntKind.i64.bits : Nat) : Int)).toNat = 1 := by decide
  rw [e, Nat.and_one_is_mod]
  have e2 : ((2 ^ IntKind.i64.bits : Nat) : Int) = 18446744073709551616 := by decide
  rw [e2, IntKind.wrap_i64]
  omega

theorem bit_test {bits : Int} {k : Nat} : (Go.bits .and .i64 (bits / 2 ^ k) 1 == 1) = bitAt bits k := by
  rw [and_one_i64]
  unfold bitAt
  rw [Bool.eq_iff_iff, beq_iff_eq, decide_eq_true_eq]

def SbRel (bits : Int) (w : World) (n : Nat) (v i : Value) (wx : World) : Prop :=
  ∃ k : Nat, k ≤ n ∧ i = .int .i64 ((k : Int) + 1) ∧ QRow w.heap.size wx v (subL bits k) ∧ Below w.heap.size w wx

set_option maxHeartbeats 1000000 in
set_option maxRecDepth 100000 in
theorem subset_any (n : Nat) (bits : Int) (hn : n ≤ 60) (w : World) :
    Calls Tryz.prog 20 #[.int .i64 n, .int .i64 bits] w fun e w' => ∃ v, e = .returned v ∧ QRow w.heap.size w' v (subL bits n) ∧ Below w.heap.size w w' := by
  go_enter Tryz.func20, Tryz.ntmps20
  go_wp2
  go_loopw [5, 6] (fun v i wx => SbRel bits w n v i wx) (fun _ i _ => n + 1 - (intOf i).toNat)
  case atStart => exact ⟨0, Nat.zero_le _, rfl, QRow.nil _ _, Below.refl _ _⟩
  case round =>
    obtain ⟨k, hk, rfl, hq, hbl⟩ := hrel
    have HQ := Lib.hid hq
    have HBX := Lib.hid hbl
    have hlen2 := subL_len bits k
    have hlen3 : ((subL bits k).length + 1) * 8 ≤ 140737488351232 := by omega
    obtain ⟨av, nv, cv, rfl⟩ := hq.form
    have hzr := hbl.size
    clear hq hbl
    by_cases hlt : k < n
    · have hbt := bit_test (bits := bits) (k := k)
      have hmin : min k 64 = k := Nat.min_eq_left (by omega)
      cases hb : bitAt bits k with
      | true =>
        rw [hb] at hbt
        have HS : Hid (subL bits (k + 1) = subL bits k ++ [(k : Int) + 1]) := Lib.hid (by simp [subL, hb])
        have hxI : InI ((k : Int) + 1) := by unfold InI; omega
        have HXI := Lib.hid hxI
        clear hb hxI
        go_wp2_with (at_builtin; refine wpList_appendQ rfl _ _ 23 Tryz.underlying23 rfl w.heap.size _ (subL bits k) ((k : Int) + 1) rfl (HQ.out.kept (w' := wr.alloc (.cells #[.int .i64 ((k : Int) + 1)] 3)) (fun i h1 h2 _ => Below.heap_alloc _ _ _ h2)) wr.heap.size 1 rfl (Blk.new wr [.int .i64 ((k : Int) + 1)] _) HXI.out hlen3 (by simp; omega) ?_; intro v4 w4 hq4 hg4 hl4; have HB4 := Lib.hid (below_push HBX.out HQ.out (Nat.le_refl _) hg4); have HQ4 := Lib.hid hq4; clear hq4 hg4 hl4)
        first
          | (go_roundw
             case rel => (exact ⟨k + 1, hlt, by go_num, by rw [HS.out]; exact HQ4.out, HB4.out⟩)
             case measure => (simp [intOf]; omega))
          | (refine ⟨?_, ?_⟩
             · (exact ⟨k + 1, hlt, by go_num, by rw [HS.out]; exact HQ4.out, HB4.out⟩)
             · (simp [intOf]; omega))
      | false =>
        rw [hb] at hbt
        have HS : Hid (subL bits (k + 1) = subL bits k) := Lib.hid (by simp [subL, hb])
        clear hb
        go_wp2
        first
          | (go_roundw
             case rel => (exact ⟨k + 1, hlt, by go_num, by rw [HS.out]; exact HQ.out, HBX.out⟩)
             case measure => (simp [intOf]; omega))
          | (refine ⟨?_, ?_⟩
             · (exact ⟨k + 1, hlt, by go_num, by rw [HS.out]; exact HQ.out, HBX.out⟩)
             · (simp [intOf]; omega))
    · obtain rfl : k = n := by omega
      go_wp2
      go_ret
      exact ⟨_, rfl, HQ.out, HBX.out⟩

theorem subset_int (x bits : Int) (hx : 0 ≤ x ∧ x ≤ 60) (w : World) :
    Calls Tryz.prog 20 #[.int .i64 x, .int .i64 bits] w fun e w' => ∃ v, e = .returned v ∧ QRow w.heap.size w' v (subL bits x.toNat) ∧ Below w.heap.size w w' := by
  obtain ⟨n, rfl⟩ := Int.eq_ofNat_of_zero_le hx.1
  exact subset_any n bits (by omega) w

end Go.Proofs.YthclpkhaenaknaaGreatDoor
