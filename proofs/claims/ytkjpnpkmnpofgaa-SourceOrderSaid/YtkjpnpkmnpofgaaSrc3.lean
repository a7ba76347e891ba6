/- available. -/
import Derived.Test.YtkjpnpkmnpofgaaSrc2
import Derived.Test.YtkjpnpkmnpofgaaBody
namespace Go.Proofs.Ytkjpnpkmnpofgaa
open Go.RowKit

def holdsB (a : List Int) (F K : Int → Int) (before l : Int) : Bool := !offB a l && (decide (l < 0) || (decide (0 < F l) && decide (K l < before)))
def avSum (r : GR) (a : List Int) (F K : Int → Int) (before : Int) : Nat → Int
  | 0 => 0
  | k + 1 => avSum r a F K before k + if holdsB a F K before (ix r.body k) then ix r.w k else 0
def availB (p : GP) (a : List Int) (F K : Int → Int) (i : Nat) (before : Int) : Bool :=
  !offB a (p.n + 1 + i) && (if (ixR p.rules i).sum then decide ((ixR p.rules i).bound ≤ avSum (ixR p.rules i) a F K before (ixR p.rules i).body.length) else allR (ixR p.rules i).body.length (fun k => holdsB a F K before (ix (ixR p.rules i).body k)))

theorem weights_sum {l : List Int} {n : Int} (h : weightsB l n = true) : (l.length : Int) = n ∧ (∀ k, k < l.length → 1 ≤ ix l k) ∧ ∀ k, k ≤ l.length → 0 ≤ sumTo l k ∧ sumTo l k ≤ 1048576 := by
  unfold weightsB at h
  simp only [Bool.and_eq_true, decide_eq_true_eq] at h
  refine ⟨h.2, fun k hk => by have := allR_get h.1 k hk; simp at this; omega, fun k => ?_⟩
  induction k with
  | zero => intro _; simp [sumTo]
  | succ k ih =>
    intro hk
    have h1 := allR_get h.1 k (by omega)
    simp only [decide_eq_true_eq] at h1
    have := ih (by omega)
    unfold sumTo; omega

theorem avSum_le {r : GR} {a : List Int} {F K : Int → Int} {before : Int} (h : ∀ k, k < r.w.length → 1 ≤ ix r.w k) : ∀ k, k ≤ r.w.length → 0 ≤ avSum r a F K before k ∧ avSum r a F K before k ≤ sumTo r.w k
  | 0, _ => by simp [avSum, sumTo]
  | k + 1, hk => by
    have := avSum_le (a := a) (F := F) (K := K) (before := before) h k (by omega)
    have h1 := h k (by omega)
    unfold avSum sumTo
    split <;> omega

def AvRel1 (r : GR) (a : List Int) (F K : Int → Int) (before : Int) (i s : Value) : Prop := ∃ k : Nat, k ≤ r.body.length ∧ i = .int .i64 k ∧ s = .int .i64 (avSum r a F K before k)
def AvRel2 (r : GR) (a : List Int) (F K : Int → Int) (before : Int) (i : Value) : Prop := ∃ k : Nat, k ≤ r.body.length ∧ i = .int .i64 k ∧ ∀ j, j < k → holdsB a F K before (ix r.body j) = true

set_option maxHeartbeats 4000000 in
set_option maxRecDepth 100000 in
theorem available_any {m : Nat} {s : SP} {p : GP} {F K : Int → Int} {clock : Int} {a : List Int} {w : World} (h : Src m s p F K clock a w) (i : Nat) (hi : i < p.rules.length) (before : Int) :
    Calls Try.prog 68 #[.pointer (some ⟨s.b, 0, none⟩), .int .i64 i, .int .i64 before] w fun e w' => e = .returned (.bool (availB p a F K i before)) ∧ Below w.heap.size w w' := by
  have h0 := h
  obtain ⟨va, ho, -⟩ := h.obj
  have ko := ho.cell
  have hob := ho.lt
  have VP := validP h.valid
  have hpn := VP.n
  have hpr := VP.rules
  have hfx := h.now
  have hprog : ProgIs w (.agg #[.int .i64 p.n, s.vn, nilS, s.vr, nilS]) p.bare := ⟨_, _, _, _, rfl, by unfold InI GP.bare; simp; omega, hfx.names, (ownNil 0 w).ints, hfx.rules, ⟨fun _ => nilS, fun _ => nilS, ⟨none, 0, rfl, Nat.le_refl _, by unfold maxLen; omega, by simp [GP.bare], fun h0 => absurd h0 (by simp [GP.bare])⟩, fun j hj => absurd hj (by simp [GP.bare])⟩⟩
  have HBI : Hid (bodyI p.bare i = p.n + 1 + i) := Lib.hid (by
    unfold bodyI
    have e := bare_valid h.valid
    have e3 : p.bare.rules = p.rules := rfl
    rw [if_neg (by rw [e, e3]; omega)]
    rfl)
  have hii : InI i := by unfold InI; omega
  obtain ⟨a2, c2, hvr, -, hl2, -, hcell⟩ := hfx.rules.form
  obtain ⟨b2, off, rfl, hbl, hc⟩ := hcell (by omega)
  obtain ⟨vh, vb, vw, ⟨r0, r1, r2, r3, r4, r5⟩, hsl⟩ := hc i hi
  obtain ⟨a3, c3, rfl, -, hl3, -, -⟩ := hsl.head.form
  obtain ⟨a4, c4, rfl, -, hl4, -, hcb⟩ := hsl.body.form
  obtain ⟨a5, c5, rfl, -, hl5, -, hcw⟩ := hsl.wts.form
  have hlit := fun j (hj : j < (ixR p.rules i).body.length) => allR_get (VP.body i hi) j hj
  have hsum := VP.sum i hi
  have hbd := VP.bound i hi
  have hbi := hsl.bound
  have HAV : Hid (availB p a F K i before = (!offB a (p.n + 1 + i) && (if (ixR p.rules i).sum then decide ((ixR p.rules i).bound ≤ avSum (ixR p.rules i) a F K before (ixR p.rules i).body.length) else allR (ixR p.rules i).body.length (fun k => holdsB a F K before (ix (ixR p.rules i).body k))))) := Lib.hid rfl
  generalize ixR p.rules i = r at *
  rw [hvr] at ko hprog
  obtain ⟨W, hW⟩ : ∃ W, W = w.alloc (.cells #[.bool r.choice, .slice a3 r.head.length c3, .bool r.sum, .int .i64 r.bound, .slice a4 r.body.length c4, .slice a5 r.w.length c5] 44) := ⟨_, rfl⟩
  have hal : Below w.heap.size w W := by rw [hW]; exact bal (Below.refl _ _) _
  have kx : ∀ o, W.cell? ⟨w.heap.size, o, none⟩ = _ := (show Blk W w.heap.size [.bool r.choice, .slice a3 r.head.length c3, .bool r.sum, .int .i64 r.bound, .slice a4 r.body.length c4, .slice a5 r.w.length c5] 44 by rw [hW]; exact Blk.new w _ _).cell
  have hzW : w.heap.size < W.heap.size := by rw [hW]; simp
  have hbW : s.b < W.heap.size := by omega
  have koW : ∀ o, W.cell? ⟨s.b, o, none⟩ = _ := fun o => (bcell hal _ o hob).trans (ko o)
  have HP := Lib.hid (hprog.below hal)
  have HSW := Lib.hid (h0.below hal)
  have hW' := hW.symm
  clear hW hsl hcell hc hprog hfx h h0 ho
  cases g0 : offB a (p.n + 1 + i) with
  | true =>
    have HF : Hid (availB p a F K i before = false) := Lib.hid (by rw [HAV.out, g0]; rfl)
    go_enter Try.func68, Try.ntmps68
    go_wp2_with (first | (go_at_call 50; refine (body_any _ p.bare _ HP.out (i : Int) hii).mono ?_; rintro e w1 ⟨rfl, hb1⟩; have hc1 := bcell hb1; have HS1 := Lib.hid (HSW.out.below hb1); have hz1 := Nat.lt_of_lt_of_le hzW hb1.size; have hz2 := Nat.lt_of_lt_of_le hbW hb1.size) | (go_at_call 43; rw [HBI.out]; refine (off_any HS1.out (p.n + 1 + i) (by omega) (by omega)).mono ?_; rintro e w2 ⟨rfl, rfl⟩))
    go_ret
    exact ⟨ret_bool HF.out.symm, bon hal hb1⟩
  | false =>
    cases gs : r.sum with
    | true =>
      have hsm := weights_sum (hsum gs)
      have HWL : Hid (r.w.length = r.body.length) := Lib.hid (by omega)
      simp only [gs] at hW' kx
      have HAS := Lib.hid (avSum_le (r := r) (a := a) (F := F) (K := K) (before := before) hsm.2.1)
      have HSM := Lib.hid hsm.2.2
      have HF : Hid (availB p a F K i before = decide (r.bound ≤ avSum r a F K before r.body.length)) := Lib.hid (by rw [HAV.out, g0, gs]; rfl)
      clear hsm hsum HAV
      go_enter Try.func68, Try.ntmps68
      go_wp2_with (first | (go_at_call 50; refine (body_any _ p.bare _ HP.out (i : Int) hii).mono ?_; rintro e w1 ⟨rfl, hb1⟩; have hc1 := bcell hb1; have HS1 := Lib.hid (HSW.out.below hb1); have hz1 := Nat.lt_of_lt_of_le hzW hb1.size; have hz2 := Nat.lt_of_lt_of_le hbW hb1.size) | (go_at_call 43; rw [HBI.out]; refine (off_any HS1.out (p.n + 1 + i) (by omega) (by omega)).mono ?_; rintro e w2 ⟨rfl, rfl⟩))
      have kx1 := fun o => (hc1 _ o hzW).trans (kx o)
      have ko1 := fun o => (hc1 _ o hbW).trans (koW o)
      have hbw1 := bon hal hb1
      clear hc1
      go_loop [8, 33] (fun s i => AvRel1 r a F K before i s) (fun _ i => r.body.length - (intOf i).toNat)
      case atStart => exact ⟨0, by omega, rfl, rfl⟩
      case round =>
        obtain ⟨k, hk, rfl, rfl⟩ := hrel
        have hs0 := HAS.out k (by have := HWL.out; omega)
        have hs1 := HSM.out k (by have := HWL.out; omega)
        by_cases hlt : k < r.body.length
        · have hltw : k < r.w.length := by have := HWL.out; omega
          obtain ⟨b4, off4, rfl, hbl4, hc4⟩ := hcb (by omega)
          obtain ⟨b5, off5, rfl, hbl5, hc5⟩ := hcw (by omega)
          have hk1 := (bcell hbw1 _ _ hbl4).trans (hc4 k hlt)
          have hk2 := (bcell hbw1 _ _ hbl5).trans (hc5 k hltw)
          have hs2 := HAS.out (k + 1) (by omega)
          have hs3 := HSM.out (k + 1) (by omega)
          have HN : Hid (avSum r a F K before (k + 1) = avSum r a F K before k + if holdsB a F K before (ix r.body k) then ix r.w k else 0) := Lib.hid rfl
          have hL := hlit k hlt
          simp only [okAt, litB, Bool.and_eq_true, decide_eq_true_eq] at hL
          have hl0 := hL.1.1
          have hlb : -4000 ≤ ix r.body k ∧ ix r.body k ≤ 4000 := by omega
          clear hL hc4 hc5 hcb hcw kx koW hlit
          generalize ix r.body k = l at *
          have hKl := HS1.out.lookK l
          have hKf := HS1.out.fitK l
          unfold InI at hKf
          cases g1 : offB a l with
          | true =>
            rw [show holdsB a F K before l = false by simp [holdsB, g1]] at HN
            go_wp2_with (go_at_call 43; refine (off_any HS1.out l hl0 (by omega)).mono ?_; rintro e w3 ⟨rfl, rfl⟩)
            first
              | (go_round
                 case rel => (exact ⟨k + 1, by omega, by go_num, by rw [HN.out]; simp⟩)
                 case measure => (simp [intOf]; omega))
              | (refine ⟨?_, ?_⟩
                 · (exact ⟨k + 1, by omega, by go_num, by rw [HN.out]; simp⟩)
                 · (simp [intOf]; omega))
          | false =>
            by_cases g2 : l < 0
            · have hN : avSum r a F K before (k + 1) = avSum r a F K before k + ix r.w k := by rw [HN.out]; simp [holdsB, g1, g2]
              have HN2 := Lib.hid hN
              rw [hN] at hs2
              clear hN
              go_wp2_with (go_at_call 43; refine (off_any HS1.out l hl0 (by omega)).mono ?_; rintro e w3 ⟨rfl, rfl⟩)
              first
                | (go_round
                   case rel => (exact ⟨k + 1, by omega, by go_num, by rw [HN2.out]⟩)
                   case measure => (simp [intOf]; omega))
                | (refine ⟨?_, ?_⟩
                   · (exact ⟨k + 1, by omega, by go_num, by rw [HN2.out]⟩)
                   · (simp [intOf]; omega))
            · by_cases g3 : 0 < F l
              · have g3' : decide (0 < F l) = true := decide_eq_true g3
                by_cases g4 : K l < before
                · have hN : avSum r a F K before (k + 1) = avSum r a F K before k + ix r.w k := by rw [HN.out]; simp [holdsB, g1, g2, g3, g4]
                  have HN2 := Lib.hid hN
                  rw [hN] at hs2
                  clear hN
                  go_wp2_with (first | (go_at_call 43; refine (off_any HS1.out l hl0 (by omega)).mono ?_; rintro e w3 ⟨rfl, rfl⟩) | (go_at_call 42; refine (founded_any HS1.out l).mono ?_; rintro e w4 ⟨rfl, rfl⟩))
                  first
                    | (go_round
                       case rel => (exact ⟨k + 1, by omega, by go_num, by rw [HN2.out]⟩)
                       case measure => (simp [intOf]; omega))
                    | (refine ⟨?_, ?_⟩
                       · (exact ⟨k + 1, by omega, by go_num, by rw [HN2.out]⟩)
                       · (simp [intOf]; omega))
                · rw [show holdsB a F K before l = false by simp [holdsB, g1, g2, g4]] at HN
                  go_wp2_with (first | (go_at_call 43; refine (off_any HS1.out l hl0 (by omega)).mono ?_; rintro e w3 ⟨rfl, rfl⟩) | (go_at_call 42; refine (founded_any HS1.out l).mono ?_; rintro e w4 ⟨rfl, rfl⟩))
                  first
                    | (go_round
                       case rel => (exact ⟨k + 1, by omega, by go_num, by rw [HN.out]; simp⟩)
                       case measure => (simp [intOf]; omega))
                    | (refine ⟨?_, ?_⟩
                       · (exact ⟨k + 1, by omega, by go_num, by rw [HN.out]; simp⟩)
                       · (simp [intOf]; omega))
              · have g3' : decide (0 < F l) = false := decide_eq_false g3
                rw [show holdsB a F K before l = false by simp [holdsB, g1, g2, g3]] at HN
                go_wp2_with (first | (go_at_call 43; refine (off_any HS1.out l hl0 (by omega)).mono ?_; rintro e w3 ⟨rfl, rfl⟩) | (go_at_call 42; refine (founded_any HS1.out l).mono ?_; rintro e w4 ⟨rfl, rfl⟩))
                first
                  | (go_round
                     case rel => (exact ⟨k + 1, by omega, by go_num, by rw [HN.out]; simp⟩)
                     case measure => (simp [intOf]; omega))
                  | (refine ⟨?_, ?_⟩
                     · (exact ⟨k + 1, by omega, by go_num, by rw [HN.out]; simp⟩)
                     · (simp [intOf]; omega))
        · obtain rfl : k = r.body.length := by omega
          go_wp2
          go_ret
          exact ⟨ret_bool HF.out.symm, hbw1⟩
    | false =>
      simp only [gs] at hW' kx
      have HALL : Hid (availB p a F K i before = allR r.body.length (fun k => holdsB a F K before (ix r.body k))) := Lib.hid (by rw [HAV.out, g0, gs]; rfl)
      clear hsum HAV
      go_enter Try.func68, Try.ntmps68
      go_wp2_with (first | (go_at_call 50; refine (body_any _ p.bare _ HP.out (i : Int) hii).mono ?_; rintro e w1 ⟨rfl, hb1⟩; have hc1 := bcell hb1; have HS1 := Lib.hid (HSW.out.below hb1); have hz1 := Nat.lt_of_lt_of_le hzW hb1.size; have hz2 := Nat.lt_of_lt_of_le hbW hb1.size) | (go_at_call 43; rw [HBI.out]; refine (off_any HS1.out (p.n + 1 + i) (by omega) (by omega)).mono ?_; rintro e w2 ⟨rfl, rfl⟩))
      have kx1 := fun o => (hc1 _ o hzW).trans (kx o)
      have ko1 := fun o => (hc1 _ o hbW).trans (koW o)
      have hbw1 := bon hal hb1
      clear hc1
      go_loop [33] (fun i => AvRel2 r a F K before i) (fun i => r.body.length - (intOf i).toNat)
      case atStart => exact ⟨0, by omega, rfl, fun j hj => absurd hj (Nat.not_lt_zero _)⟩
      case round =>
        obtain ⟨k, hk, rfl, hall⟩ := hrel
        have HL := Lib.hid hall
        clear hall
        by_cases hlt : k < r.body.length
        · obtain ⟨b4, off4, rfl, hbl4, hc4⟩ := hcb (by omega)
          have hk1 := (bcell hbw1 _ _ hbl4).trans (hc4 k hlt)
          have hL := hlit k hlt
          simp only [okAt, litB, Bool.and_eq_true, decide_eq_true_eq] at hL
          have hl0 := hL.1.1
          have hlb : -4000 ≤ ix r.body k ∧ ix r.body k ≤ 4000 := by omega
          have HB : Hid (holdsB a F K before (ix r.body k) = false → availB p a F K i before = false) := Lib.hid (fun h => by rw [HALL.out, allR_false k hlt h])
          have HG : Hid (holdsB a F K before (ix r.body k) = true → ∀ j, j < k + 1 → holdsB a F K before (ix r.body j) = true) := Lib.hid (fun h => lt_succ_all HL.out h)
          clear hL hc4 hcb hcw kx koW hlit HL
          generalize ix r.body k = l at *
          have hKl := HS1.out.lookK l
          have hKf := HS1.out.fitK l
          unfold InI at hKf
          cases g1 : offB a l with
          | true =>
            have HF := HB.out (by simp [holdsB, g1])
            have HF2 := Lib.hid HF
            clear HF
            go_wp2_with (go_at_call 43; refine (off_any HS1.out l hl0 (by omega)).mono ?_; rintro e w3 ⟨rfl, rfl⟩)
            go_ret
            exact ⟨ret_bool HF2.out.symm, hbw1⟩
          | false =>
            by_cases g2 : l < 0
            · have HR := Lib.hid (HG.out (by simp [holdsB, g1, g2]))
              go_wp2_with (go_at_call 43; refine (off_any HS1.out l hl0 (by omega)).mono ?_; rintro e w3 ⟨rfl, rfl⟩)
              first
                | (go_round
                   case rel => (exact ⟨k + 1, by omega, by go_num, HR.out⟩)
                   case measure => (simp [intOf]; omega))
                | (refine ⟨?_, ?_⟩
                   · (exact ⟨k + 1, by omega, by go_num, HR.out⟩)
                   · (simp [intOf]; omega))
            · by_cases g3 : 0 < F l
              · have g3' : decide (0 < F l) = true := decide_eq_true g3
                by_cases g4 : K l < before
                · have HR := Lib.hid (HG.out (by simp [holdsB, g1, g2, g3, g4]))
                  go_wp2_with (first | (go_at_call 43; refine (off_any HS1.out l hl0 (by omega)).mono ?_; rintro e w3 ⟨rfl, rfl⟩) | (go_at_call 42; refine (founded_any HS1.out l).mono ?_; rintro e w4 ⟨rfl, rfl⟩))
                  first
                    | (go_round
                       case rel => (exact ⟨k + 1, by omega, by go_num, HR.out⟩)
                       case measure => (simp [intOf]; omega))
                    | (refine ⟨?_, ?_⟩
                       · (exact ⟨k + 1, by omega, by go_num, HR.out⟩)
                       · (simp [intOf]; omega))
                · have HF2 := Lib.hid (HB.out (by simp [holdsB, g1, g2, g4]))
                  have g2' : decide (l < 0) = false := decide_eq_false g2
                  have g4' : decide (K l < before) = false := decide_eq_false g4
                  have g5' : decide (before ≤ K l) = true := decide_eq_true (by omega)
                  go_wp2_with (first | (go_at_call 43; refine (off_any HS1.out l hl0 (by omega)).mono ?_; rintro e w3 ⟨rfl, rfl⟩) | (go_at_call 42; refine (founded_any HS1.out l).mono ?_; rintro e w4 ⟨rfl, rfl⟩))
                  go_ret
                  exact ⟨ret_bool HF2.out.symm, hbw1⟩
              · have g3' : decide (0 < F l) = false := decide_eq_false g3
                have HF2 := Lib.hid (HB.out (by simp [holdsB, g1, g2, g3]))
                have g2' : decide (l < 0) = false := decide_eq_false g2
                go_wp2_with (first | (go_at_call 43; refine (off_any HS1.out l hl0 (by omega)).mono ?_; rintro e w3 ⟨rfl, rfl⟩) | (go_at_call 42; refine (founded_any HS1.out l).mono ?_; rintro e w4 ⟨rfl, rfl⟩))
                go_ret
                exact ⟨ret_bool HF2.out.symm, hbw1⟩
        · have HF2 : Hid (availB p a F K i before = true) := Lib.hid (by rw [HALL.out]; exact allR_true (fun j hj => HL.out j (by omega)))
          go_wp2
          go_ret
          exact ⟨ret_bool HF2.out.symm, hbw1⟩

end Go.Proofs.Ytkjpnpkmnpofgaa
