/- ostlerlaw33.off, ostlerlaw33.available. -/
import Derived.Test.YtkjpnpkmnpofgaaPlain3
import Derived.Deep.DeepCutAuto
namespace Go.Proofs.Ytkjpnpkmnpofgaa
open Go.RowKit

set_option maxHeartbeats 1000000 in
theorem off33_any (va : Value) (a : List Int) (w : World) (h : Bytes8 w va a) (l : Int) (hl0 : l ≠ 0) (hl : -4611686018427387904 ≤ l ∧ l ≤ 4611686018427387904) :
    Calls Try.prog 26 #[va, .int .i64 l] w fun e w' => e = .returned (.bool (offB a l)) ∧ w = w' := by
  obtain ⟨⟨ad, cap, rfl, hcap, hmx, -, hc⟩, hb8⟩ := h
  have e8 : a.length < 9223372036854775808 := by unfold maxLen at hmx; omega
  obtain ⟨n, hn1, hln⟩ : ∃ n : Nat, 1 ≤ n ∧ (l = n ∨ l = -(n : Int)) := ⟨l.natAbs, by omega, by omega⟩
  have hneg : - -(n : Int) = n := by omega
  by_cases h1 : n ≤ a.length
  · obtain ⟨b0, off0, rfl, hbl, hcc⟩ := hc (by omega)
    have hk : w.cell? ⟨b0, off0 + (n - 1), none⟩ = some (.int .i8 (ix a (n - 1))) := hcc (n - 1) (by omega)
    have hb := hb8 (n - 1)
    clear hcc hc hb8
    have HP := Lib.hid (offB_pos a n hn1)
    have HN := Lib.hid (offB_neg a n)
    generalize ix a (n - 1) = y at *
    rcases hln with rfl | rfl
    · by_cases yp : y < 0
      · have HF : Hid (offB a n = true) := Lib.hid (by rw [HP.out]; simp [h1]; omega)
        go_enter Try.func26, Try.ntmps26
        go_wp2
        go_ret
        exact ⟨ret_bool (by rw [HF.out]; try (simp <;> omega)), rfl⟩
      · have HF : Hid (offB a n = false) := Lib.hid (by rw [HP.out]; simp; omega)
        go_enter Try.func26, Try.ntmps26
        go_wp2
        go_ret
        exact ⟨ret_bool (by rw [HF.out]; try (simp <;> omega)), rfl⟩
    · by_cases yp : 0 < y
      · have HF : Hid (offB a (-(n : Int)) = true) := Lib.hid (by rw [HN.out]; simp [yp, h1]; omega)
        go_enter Try.func26, Try.ntmps26
        go_wp2
        go_ret
        exact ⟨ret_bool (by rw [HF.out]; try (simp <;> omega)), rfl⟩
      · have HF : Hid (offB a (-(n : Int)) = false) := Lib.hid (by rw [HN.out]; simp [yp])
        go_enter Try.func26, Try.ntmps26
        go_wp2
        go_ret
        exact ⟨ret_bool (by rw [HF.out]; try (simp <;> omega)), rfl⟩
  · rcases hln with rfl | rfl
    · have HF : Hid (offB a n = false) := Lib.hid (by rw [offB_pos a n hn1]; simp [h1])
      go_enter Try.func26, Try.ntmps26
      go_wp2
      go_ret
      exact ⟨ret_bool (by rw [HF.out]; try (simp <;> omega)), rfl⟩
    · have HF : Hid (offB a (-(n : Int)) = false) := Lib.hid (by rw [offB_neg a n]; simp [h1])
      go_enter Try.func26, Try.ntmps26
      go_wp2
      go_ret
      exact ⟨ret_bool (by rw [HF.out]; try (simp <;> omega)), rfl⟩

theorem allR_succ (n : Nat) (f : Nat → Bool) : allR (n + 1) f = (allR n f && f n) := by
  simp [allR, List.range_succ, List.all_append]

theorem mapI_look {w : World} {b : Nat} {G : Int → Int} (h : MapIs (Value.int .i64) w b (mapI G)) (x : Int) :
    (Instr.lookup 48 (.map (some b)) (.int .i64 x) false).run Try.prog w = .ok (.int .i64 (G x)) w := by
  have := h.lookup kvInt Try.underlying48 Try.underlying3 (Try.zeroValue3 w) x
  rw [mapI_getD] at this
  exact this

def Av33Rel (n : Nat) (S : Nat → Int) (hb : Nat → Bool) (s al i : Value) : Prop :=
  ∃ k : Nat, k ≤ n ∧ i = .int .i64 k ∧ s = .int .i64 (S k) ∧ al = .bool (allR k hb)

set_option maxHeartbeats 4000000 in
set_option maxRecDepth 100000 in
theorem avail33_any (v va : Value) (p : GP) (a : List Int) (G : Int → Int) (b0 : Nat) (w : World) (h : ProgIs w v p) (hv : validE p = 0) (i : Nat) (hi : i < p.rules.length) (ha : Bytes8 w va a) (hm : MapIs (Value.int .i64) w b0 (mapI G)) (hG : ∀ x, InI (G x)) :
    Calls Try.prog 22 #[v, .int .i64 i, va, .map (some b0)] w fun e w' => e = .returned (.bool (avS p a G i)) ∧ Below w.heap.size w w' := by
  have h0 := h
  obtain ⟨vn, vs, vr, vm, rfl, hn, hnames, hshown, hrules, hmin⟩ := h
  have VP := validP hv
  have hpn := VP.n
  have hpr := VP.rules
  obtain ⟨a1, c1, rfl, -, hl1, -, hcell⟩ := hrules.form
  obtain ⟨a9, n9, c9, rfl⟩ : ∃ a9 n9 c9, va = .slice a9 n9 c9 := by obtain ⟨⟨x, y, e, -⟩, -⟩ := ha; exact ⟨_, _, _, e⟩
  have hal := bal (Below.refl w.heap.size w) (.cells #[.int .i64 p.n, vn, vs, .slice a1 p.rules.length c1, vm] 27)
  have hbk : Blk (w.alloc (.cells #[.int .i64 p.n, vn, vs, .slice a1 p.rules.length c1, vm] 27)) w.heap.size _ _ := Blk.new w [.int .i64 p.n, vn, vs, .slice a1 p.rules.length c1, vm] _
  have HP := Lib.hid (h0.below hal)
  have HA := Lib.hid (ha.below hal)
  have HM := Lib.hid (hm.same (Below.heap_alloc w (.cells #[.int .i64 p.n, vn, vs, .slice a1 p.rules.length c1, vm] 27) _ hm.lt))
  have hiI : InI i := by unfold InI; omega
  have HBI : Hid (bodyI p i = p.n + 1 + i) := Lib.hid (by
    unfold bodyI
    rw [if_neg (by rw [hv]; omega)])
  have hii := hi
  obtain ⟨b, off, rfl, hbl, hc⟩ := hcell (by omega)
  obtain ⟨vh, vb, vw, ⟨r0, r1, r2, r3, r4, r5⟩, hsl⟩ := hc i hi
  have hlit := fun j (hj : j < (ixR p.rules i).body.length) => allR_get (VP.body i hi) j hj
  have hsum := VP.sum i hi
  have hbd := VP.bound i hi
  have hbi := hsl.bound
  have HAV : Hid (avS p a G i = (!offB a (p.n + 1 + i) && (if (ixR p.rules i).sum then decide ((ixR p.rules i).bound ≤ avSum (ixR p.rules i) a G (fun _ => 0) 1 (ixR p.rules i).body.length) else allR (ixR p.rules i).body.length (fun k => holdsB a G (fun _ => 0) 1 (ix (ixR p.rules i).body k))))) := Lib.hid (by
    unfold avS avB; rfl)
  generalize ixR p.rules i = r at *
  unfold InI at hbi
  obtain ⟨a4, c4, rfl, -, hl4, -, hcb⟩ := hsl.body.form
  obtain ⟨a5, c5, rfl, -, hl5, -, hcw⟩ := hsl.wts.form
  have hbw : ∀ k, k ≤ r.body.length → r.sum = true → 0 ≤ avSum r a G (fun _ => 0) 1 k ∧ avSum r a G (fun _ => 0) 1 k ≤ 1048576 := fun k hk hs => by
    have h3 := weights_sum (hsum hs)
    have h4 := avSum_le (r := r) (a := a) (F := G) (K := fun _ => 0) (before := 1) h3.2.1 k (by omega)
    have h5 := h3.2.2 k (by omega)
    omega
  have HBW := Lib.hid hbw
  have HWL : Hid (r.sum = true → r.w.length = r.body.length) := Lib.hid (fun hs => by have := weights_sum (hsum hs); omega)
  have HWR : Hid (∀ k, k < r.w.length → InI (ix r.w k)) := Lib.hid (fun k hk => hsl.wts.2 k)
  have HG := Lib.hid hG
  have hk1 := hc
  clear hrules hcell hnames hshown hmin h0 ha hm hG hc hk1 hsl hbw hsum hv hn VP
  go_enter Try.func22, Try.ntmps22
  go_upto_region 2 with fail
  generalize w.alloc (.cells #[.int .i64 p.n, vn, vs, .slice (some ⟨b, off, none⟩) p.rules.length c1, vm] 27) = W at hal hbk HP HA HM ⊢
  have kk := bcell hal b
  have q0 := (kk _ hbl).trans r0
  have q2 := (kk _ hbl).trans r2
  have q3 := (kk _ hbl).trans r3
  have q4 := (kk _ hbl).trans r4
  have q5 := (kk _ hbl).trans r5
  have kx := hbk.cell
  clear kk r0 r1 r2 r3 r4 r5
  obtain ⟨hb, hbE⟩ : ∃ hb : Nat → Bool, ∀ k, hb k = holdsB a G (fun _ => 0) 1 (ix r.body k) := ⟨_, fun _ => rfl⟩
  have HBE := Lib.hid hbE
  obtain ⟨S, HS0, HRS, HSS, HSF⟩ : ∃ S : Nat → Int, Hid (S 0 = 0) ∧ Hid (∀ k, k ≤ r.body.length → 0 ≤ S k ∧ S k ≤ 1048576) ∧ Hid (∀ k, S (k + 1) = S k + if r.sum && hb k then ix r.w k else 0) ∧
      Hid (avS p a G i = (!offB a (p.n + 1 + i) && (if r.sum then decide (r.bound ≤ S r.body.length) else allR r.body.length hb))) := by
    refine ⟨fun k => if r.sum then avSum r a G (fun _ => 0) 1 k else 0, Lib.hid (by simp [avSum]), Lib.hid (fun k hk => ?_), Lib.hid (fun k => ?_), Lib.hid ?_⟩
    · cases hs : r.sum with
      | true => simpa using HBW.out k hk hs
      | false => simp
    · cases hs : r.sum with
      | true => simp [avSum, hbE]
      | false => simp
    · rw [HAV.out, show hb = (fun k => holdsB a G (fun _ => 0) 1 (ix r.body k)) from funext hbE]
      cases hs : r.sum <;> simp
  clear HBW HAV hbE
  go_wp2_with fail
  go_loop [9, 10, 21] (fun s al i => Av33Rel r.body.length S hb s al i) (fun _ _ i => r.body.length - (intOf i).toNat)
  case atStart => exact ⟨0, by omega, rfl, by rw [HS0.out], rfl⟩
  case round =>
    obtain ⟨k, hk, rfl, rfl, rfl⟩ := hrel
    have hs0 := HRS.out k hk
    by_cases hlt : k < r.body.length
    · obtain ⟨b4, off4, rfl, hbl4, hc4⟩ := hcb (by omega)
      have hk1 := (bcell hal _ _ hbl4).trans (hc4 k hlt)
      have hL := hlit k hlt
      simp only [okAt, litB, Bool.and_eq_true, decide_eq_true_eq] at hL
      have hl0 := hL.1.1
      have hlb : -4000 ≤ ix r.body k ∧ ix r.body k ≤ 4000 := by omega
      have hs1 := HRS.out (k + 1) (by omega)
      have HBK := Lib.hid (HBE.out k)
      have HSK := Lib.hid (HSS.out k)
      have HAK := Lib.hid (allR_succ k hb)
      clear hL hc4 hcb hlit
      generalize ix r.body k = l at *
      have hGl := HG.out l
      unfold InI at hGl
      have hlk := mapI_look HM.out l
      cases gs : r.sum with
      | true =>
        have hltw : k < r.w.length := by have := HWL.out gs; omega
        obtain ⟨b5, off5, rfl, hbl5, hc5⟩ := hcw (by omega)
        have hk2 := (bcell hal _ _ hbl5).trans (hc5 k hltw)
        have hwr := HWR.out k hltw
        unfold InI at hwr
        rw [gs] at q2 HSK
        clear hc5 hcw
        cases g1 : offB a l with
        | true =>
          have HOK : Hid (Calls Try.prog 26 #[.slice a9 n9 c9, .int .i64 l] W fun e w' => e = .returned (.bool true) ∧ W = w') := Lib.hid (by rw [← g1]; exact off33_any _ a W HA.out l hl0 (by omega))
          have HV : Hid (hb k = false) := Lib.hid (by rw [HBK.out, holds_set, g1]; rfl)
          have HS2 : Hid (S (k + 1) = S k) := Lib.hid (by rw [HSK.out, HV.out]; simp)
          have hs3 := hs1
          rw [HS2.out] at hs3
          cases gal : allR k hb with
          | true =>
            have HA2 : Hid (allR (k + 1) hb = false) := Lib.hid (by rw [HAK.out, gal, HV.out]; rfl)
            go_wp2_with (go_at_call 26; (with_reducible refine (HOK.out).mono ?_); rintro e w3 ⟨rfl, rfl⟩)
            first
              | (go_round
                 case rel => (exact ⟨k + 1, by omega, by go_num, by rw [HS2.out], by rw [HA2.out]⟩)
                 case measure => (simp [intOf]; omega))
              | (refine ⟨?_, ?_⟩
                 · (exact ⟨k + 1, by omega, by go_num, by rw [HS2.out], by rw [HA2.out]⟩)
                 · (simp [intOf]; omega))
          | false =>
            have HA2 : Hid (allR (k + 1) hb = false) := Lib.hid (by rw [HAK.out, gal]; rfl)
            go_wp2_with (go_at_call 26; (with_reducible refine (HOK.out).mono ?_); rintro e w3 ⟨rfl, rfl⟩)
            first
              | (go_round
                 case rel => (exact ⟨k + 1, by omega, by go_num, by rw [HS2.out], by rw [HA2.out]⟩)
                 case measure => (simp [intOf]; omega))
              | (refine ⟨?_, ?_⟩
                 · (exact ⟨k + 1, by omega, by go_num, by rw [HS2.out], by rw [HA2.out]⟩)
                 · (simp [intOf]; omega))
        | false =>
          have HOK : Hid (Calls Try.prog 26 #[.slice a9 n9 c9, .int .i64 l] W fun e w' => e = .returned (.bool false) ∧ W = w') := Lib.hid (by rw [← g1]; exact off33_any _ a W HA.out l hl0 (by omega))
          by_cases g2 : l < 0
          · have HV : Hid (hb k = true) := Lib.hid (by rw [HBK.out, holds_set, g1, decide_eq_true g2]; simp)
            have HS2 : Hid (S (k + 1) = S k + ix r.w k) := Lib.hid (by rw [HSK.out, HV.out]; simp)
            have hs3 := hs1
            rw [HS2.out] at hs3
            cases gal : allR k hb with
            | true =>
              have HA2 : Hid (allR (k + 1) hb = true) := Lib.hid (by rw [HAK.out, gal, HV.out]; rfl)
              go_wp2_with (go_at_call 26; (with_reducible refine (HOK.out).mono ?_); rintro e w3 ⟨rfl, rfl⟩)
              first
                | (go_round
                   case rel => (exact ⟨k + 1, by omega, by go_num, by rw [HS2.out], by rw [HA2.out]⟩)
                   case measure => (simp [intOf]; omega))
                | (refine ⟨?_, ?_⟩
                   · (exact ⟨k + 1, by omega, by go_num, by rw [HS2.out], by rw [HA2.out]⟩)
                   · (simp [intOf]; omega))
            | false =>
              have HA2 : Hid (allR (k + 1) hb = false) := Lib.hid (by rw [HAK.out, gal]; rfl)
              go_wp2_with (go_at_call 26; (with_reducible refine (HOK.out).mono ?_); rintro e w3 ⟨rfl, rfl⟩)
              first
                | (go_round
                   case rel => (exact ⟨k + 1, by omega, by go_num, by rw [HS2.out], by rw [HA2.out]⟩)
                   case measure => (simp [intOf]; omega))
                | (refine ⟨?_, ?_⟩
                   · (exact ⟨k + 1, by omega, by go_num, by rw [HS2.out], by rw [HA2.out]⟩)
                   · (simp [intOf]; omega))
          · by_cases g3 : 0 < G l
            · have HV : Hid (hb k = true) := Lib.hid (by rw [HBK.out, holds_set, g1, decide_eq_true g3]; simp)
              have HS2 : Hid (S (k + 1) = S k + ix r.w k) := Lib.hid (by rw [HSK.out, HV.out]; simp)
              have hs3 := hs1
              rw [HS2.out] at hs3
              cases gal : allR k hb with
              | true =>
                have HA2 : Hid (allR (k + 1) hb = true) := Lib.hid (by rw [HAK.out, gal, HV.out]; rfl)
                go_wp2_with (go_at_call 26; (with_reducible refine (HOK.out).mono ?_); rintro e w3 ⟨rfl, rfl⟩)
                first
                  | (go_round
                     case rel => (exact ⟨k + 1, by omega, by go_num, by rw [HS2.out], by rw [HA2.out]⟩)
                     case measure => (simp [intOf]; omega))
                  | (refine ⟨?_, ?_⟩
                     · (exact ⟨k + 1, by omega, by go_num, by rw [HS2.out], by rw [HA2.out]⟩)
                     · (simp [intOf]; omega))
              | false =>
                have HA2 : Hid (allR (k + 1) hb = false) := Lib.hid (by rw [HAK.out, gal]; rfl)
                go_wp2_with (go_at_call 26; (with_reducible refine (HOK.out).mono ?_); rintro e w3 ⟨rfl, rfl⟩)
                first
                  | (go_round
                     case rel => (exact ⟨k + 1, by omega, by go_num, by rw [HS2.out], by rw [HA2.out]⟩)
                     case measure => (simp [intOf]; omega))
                  | (refine ⟨?_, ?_⟩
                     · (exact ⟨k + 1, by omega, by go_num, by rw [HS2.out], by rw [HA2.out]⟩)
                     · (simp [intOf]; omega))
            · have hd1 : decide (l < 0) = false := decide_eq_false g2
              have hd2 : decide (0 < G l) = false := decide_eq_false g3
              have HV : Hid (hb k = false) := Lib.hid (by rw [HBK.out, holds_set, g1, decide_eq_false g2, decide_eq_false g3]; rfl)
              have HS2 : Hid (S (k + 1) = S k) := Lib.hid (by rw [HSK.out, HV.out]; simp)
              have hs3 := hs1
              rw [HS2.out] at hs3
              cases gal : allR k hb with
              | true =>
                have HA2 : Hid (allR (k + 1) hb = false) := Lib.hid (by rw [HAK.out, gal, HV.out]; rfl)
                go_wp2_with (go_at_call 26; (with_reducible refine (HOK.out).mono ?_); rintro e w3 ⟨rfl, rfl⟩)
                first
                  | (go_round
                     case rel => (exact ⟨k + 1, by omega, by go_num, by rw [HS2.out], by rw [HA2.out]⟩)
                     case measure => (simp [intOf]; omega))
                  | (refine ⟨?_, ?_⟩
                     · (exact ⟨k + 1, by omega, by go_num, by rw [HS2.out], by rw [HA2.out]⟩)
                     · (simp [intOf]; omega))
              | false =>
                have HA2 : Hid (allR (k + 1) hb = false) := Lib.hid (by rw [HAK.out, gal]; rfl)
                go_wp2_with (go_at_call 26; (with_reducible refine (HOK.out).mono ?_); rintro e w3 ⟨rfl, rfl⟩)
                first
                  | (go_round
                     case rel => (exact ⟨k + 1, by omega, by go_num, by rw [HS2.out], by rw [HA2.out]⟩)
                     case measure => (simp [intOf]; omega))
                  | (refine ⟨?_, ?_⟩
                     · (exact ⟨k + 1, by omega, by go_num, by rw [HS2.out], by rw [HA2.out]⟩)
                     · (simp [intOf]; omega))
      | false =>
        rw [gs] at q2 HSK
        clear hcw
        cases g1 : offB a l with
        | true =>
          have HOK : Hid (Calls Try.prog 26 #[.slice a9 n9 c9, .int .i64 l] W fun e w' => e = .returned (.bool true) ∧ W = w') := Lib.hid (by rw [← g1]; exact off33_any _ a W HA.out l hl0 (by omega))
          have HV : Hid (hb k = false) := Lib.hid (by rw [HBK.out, holds_set, g1]; rfl)
          have HS2 : Hid (S (k + 1) = S k) := Lib.hid (by rw [HSK.out, HV.out]; simp)
          have hs3 := hs1
          rw [HS2.out] at hs3
          cases gal : allR k hb with
          | true =>
            have HA2 : Hid (allR (k + 1) hb = false) := Lib.hid (by rw [HAK.out, gal, HV.out]; rfl)
            go_wp2_with (go_at_call 26; (with_reducible refine (HOK.out).mono ?_); rintro e w3 ⟨rfl, rfl⟩)
            first
              | (go_round
                 case rel => (exact ⟨k + 1, by omega, by go_num, by rw [HS2.out], by rw [HA2.out]⟩)
                 case measure => (simp [intOf]; omega))
              | (refine ⟨?_, ?_⟩
                 · (exact ⟨k + 1, by omega, by go_num, by rw [HS2.out], by rw [HA2.out]⟩)
                 · (simp [intOf]; omega))
          | false =>
            have HA2 : Hid (allR (k + 1) hb = false) := Lib.hid (by rw [HAK.out, gal]; rfl)
            go_wp2_with (go_at_call 26; (with_reducible refine (HOK.out).mono ?_); rintro e w3 ⟨rfl, rfl⟩)
            first
              | (go_round
                 case rel => (exact ⟨k + 1, by omega, by go_num, by rw [HS2.out], by rw [HA2.out]⟩)
                 case measure => (simp [intOf]; omega))
              | (refine ⟨?_, ?_⟩
                 · (exact ⟨k + 1, by omega, by go_num, by rw [HS2.out], by rw [HA2.out]⟩)
                 · (simp [intOf]; omega))
        | false =>
          have HOK : Hid (Calls Try.prog 26 #[.slice a9 n9 c9, .int .i64 l] W fun e w' => e = .returned (.bool false) ∧ W = w') := Lib.hid (by rw [← g1]; exact off33_any _ a W HA.out l hl0 (by omega))
          by_cases g2 : l < 0
          · have HV : Hid (hb k = true) := Lib.hid (by rw [HBK.out, holds_set, g1, decide_eq_true g2]; simp)
            have HS2 : Hid (S (k + 1) = S k) := Lib.hid (by rw [HSK.out, HV.out]; simp)
            have hs3 := hs1
            rw [HS2.out] at hs3
            cases gal : allR k hb with
            | true =>
              have HA2 : Hid (allR (k + 1) hb = true) := Lib.hid (by rw [HAK.out, gal, HV.out]; rfl)
              go_wp2_with (go_at_call 26; (with_reducible refine (HOK.out).mono ?_); rintro e w3 ⟨rfl, rfl⟩)
              first
                | (go_round
                   case rel => (exact ⟨k + 1, by omega, by go_num, by rw [HS2.out], by rw [HA2.out]⟩)
                   case measure => (simp [intOf]; omega))
                | (refine ⟨?_, ?_⟩
                   · (exact ⟨k + 1, by omega, by go_num, by rw [HS2.out], by rw [HA2.out]⟩)
                   · (simp [intOf]; omega))
            | false =>
              have HA2 : Hid (allR (k + 1) hb = false) := Lib.hid (by rw [HAK.out, gal]; rfl)
              go_wp2_with (go_at_call 26; (with_reducible refine (HOK.out).mono ?_); rintro e w3 ⟨rfl, rfl⟩)
              first
                | (go_round
                   case rel => (exact ⟨k + 1, by omega, by go_num, by rw [HS2.out], by rw [HA2.out]⟩)
                   case measure => (simp [intOf]; omega))
                | (refine ⟨?_, ?_⟩
                   · (exact ⟨k + 1, by omega, by go_num, by rw [HS2.out], by rw [HA2.out]⟩)
                   · (simp [intOf]; omega))
          · by_cases g3 : 0 < G l
            · have HV : Hid (hb k = true) := Lib.hid (by rw [HBK.out, holds_set, g1, decide_eq_true g3]; simp)
              have HS2 : Hid (S (k + 1) = S k) := Lib.hid (by rw [HSK.out, HV.out]; simp)
              have hs3 := hs1
              rw [HS2.out] at hs3
              cases gal : allR k hb with
              | true =>
                have HA2 : Hid (allR (k + 1) hb = true) := Lib.hid (by rw [HAK.out, gal, HV.out]; rfl)
                go_wp2_with (go_at_call 26; (with_reducible refine (HOK.out).mono ?_); rintro e w3 ⟨rfl, rfl⟩)
                first
                  | (go_round
                     case rel => (exact ⟨k + 1, by omega, by go_num, by rw [HS2.out], by rw [HA2.out]⟩)
                     case measure => (simp [intOf]; omega))
                  | (refine ⟨?_, ?_⟩
                     · (exact ⟨k + 1, by omega, by go_num, by rw [HS2.out], by rw [HA2.out]⟩)
                     · (simp [intOf]; omega))
              | false =>
                have HA2 : Hid (allR (k + 1) hb = false) := Lib.hid (by rw [HAK.out, gal]; rfl)
                go_wp2_with (go_at_call 26; (with_reducible refine (HOK.out).mono ?_); rintro e w3 ⟨rfl, rfl⟩)
                first
                  | (go_round
                     case rel => (exact ⟨k + 1, by omega, by go_num, by rw [HS2.out], by rw [HA2.out]⟩)
                     case measure => (simp [intOf]; omega))
                  | (refine ⟨?_, ?_⟩
                     · (exact ⟨k + 1, by omega, by go_num, by rw [HS2.out], by rw [HA2.out]⟩)
                     · (simp [intOf]; omega))
            · have hd1 : decide (l < 0) = false := decide_eq_false g2
              have hd2 : decide (0 < G l) = false := decide_eq_false g3
              have HV : Hid (hb k = false) := Lib.hid (by rw [HBK.out, holds_set, g1, decide_eq_false g2, decide_eq_false g3]; rfl)
              have HS2 : Hid (S (k + 1) = S k) := Lib.hid (by rw [HSK.out, HV.out]; simp)
              have hs3 := hs1
              rw [HS2.out] at hs3
              cases gal : allR k hb with
              | true =>
                have HA2 : Hid (allR (k + 1) hb = false) := Lib.hid (by rw [HAK.out, gal, HV.out]; rfl)
                go_wp2_with (go_at_call 26; (with_reducible refine (HOK.out).mono ?_); rintro e w3 ⟨rfl, rfl⟩)
                first
                  | (go_round
                     case rel => (exact ⟨k + 1, by omega, by go_num, by rw [HS2.out], by rw [HA2.out]⟩)
                     case measure => (simp [intOf]; omega))
                  | (refine ⟨?_, ?_⟩
                     · (exact ⟨k + 1, by omega, by go_num, by rw [HS2.out], by rw [HA2.out]⟩)
                     · (simp [intOf]; omega))
              | false =>
                have HA2 : Hid (allR (k + 1) hb = false) := Lib.hid (by rw [HAK.out, gal]; rfl)
                go_wp2_with (go_at_call 26; (with_reducible refine (HOK.out).mono ?_); rintro e w3 ⟨rfl, rfl⟩)
                first
                  | (go_round
                     case rel => (exact ⟨k + 1, by omega, by go_num, by rw [HS2.out], by rw [HA2.out]⟩)
                     case measure => (simp [intOf]; omega))
                  | (refine ⟨?_, ?_⟩
                     · (exact ⟨k + 1, by omega, by go_num, by rw [HS2.out], by rw [HA2.out]⟩)
                     · (simp [intOf]; omega))
    · obtain rfl : k = r.body.length := by omega
      clear hcb hcw hlit
      cases g0 : offB a (p.n + 1 + i) with
      | true =>
        have HF : Hid (avS p a G i = false) := Lib.hid (by rw [HSF.out, g0]; rfl)
        go_wp2_with (first
          | (go_at_call 26; rw [HBI.out]; (with_reducible refine (off33_any _ a _ (HA.out.below hb1) (p.n + 1 + i) (by omega) (by omega)).mono ?_); rintro e w2 ⟨h2, rfl⟩; rw [g0] at h2; subst h2)
          | (go_at_call 50; (with_reducible refine (body_any _ p _ HP.out (i : Int) hiI).mono ?_); rintro e w1 ⟨rfl, hb1⟩; have hc1 := bcell hb1; have hzW := hbk.lt; have hbW := Nat.lt_of_lt_of_le hbl hal.size))
        go_ret
        exact ⟨ret_bool HF.out.symm, bon hal hb1⟩
      | false =>
        cases gs : r.sum with
        | true =>
          have HF : Hid (avS p a G i = decide (r.bound ≤ S r.body.length)) := Lib.hid (by rw [HSF.out, g0, gs]; rfl)
          rw [gs] at q2
          by_cases hB : r.bound ≤ S r.body.length
          · go_wp2_with (first
              | (go_at_call 26; rw [HBI.out]; (with_reducible refine (off33_any _ a _ (HA.out.below hb1) (p.n + 1 + i) (by omega) (by omega)).mono ?_); rintro e w2 ⟨h2, rfl⟩; rw [g0] at h2; subst h2)
              | (go_at_call 50; (with_reducible refine (body_any _ p _ HP.out (i : Int) hiI).mono ?_); rintro e w1 ⟨rfl, hb1⟩; have hc1 := bcell hb1; have hzW := hbk.lt; have hbW := Nat.lt_of_lt_of_le hbl hal.size))
            go_ret
            exact ⟨ret_bool (by rw [HF.out, decide_eq_true hB]), bon hal hb1⟩
          · go_wp2_with (first
              | (go_at_call 26; rw [HBI.out]; (with_reducible refine (off33_any _ a _ (HA.out.below hb1) (p.n + 1 + i) (by omega) (by omega)).mono ?_); rintro e w2 ⟨h2, rfl⟩; rw [g0] at h2; subst h2)
              | (go_at_call 50; (with_reducible refine (body_any _ p _ HP.out (i : Int) hiI).mono ?_); rintro e w1 ⟨rfl, hb1⟩; have hc1 := bcell hb1; have hzW := hbk.lt; have hbW := Nat.lt_of_lt_of_le hbl hal.size))
            go_ret
            exact ⟨ret_bool (by rw [HF.out, decide_eq_false (show ¬ r.bound ≤ S r.body.length by omega)]), bon hal hb1⟩
        | false =>
          have HF : Hid (avS p a G i = allR r.body.length hb) := Lib.hid (by rw [HSF.out, g0, gs]; rfl)
          rw [gs] at q2
          cases ga : allR r.body.length hb
          all_goals
            go_wp2_with (first
              | (go_at_call 26; rw [HBI.out]; (with_reducible refine (off33_any _ a _ (HA.out.below hb1) (p.n + 1 + i) (by omega) (by omega)).mono ?_); rintro e w2 ⟨h2, rfl⟩; rw [g0] at h2; subst h2)
              | (go_at_call 50; (with_reducible refine (body_any _ p _ HP.out (i : Int) hiI).mono ?_); rintro e w1 ⟨rfl, hb1⟩; have hc1 := bcell hb1; have hzW := hbk.lt; have hbW := Nat.lt_of_lt_of_le hbl hal.size))
            go_ret
            exact ⟨ret_bool (by rw [HF.out, ga]), bon hal hb1⟩

end Go.Proofs.Ytkjpnpkmnpofgaa
