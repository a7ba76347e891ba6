/- ostlerlaw33.SourceTells returns true and writes nothing that was there. -/
import Derived.Test.YtkjpnpkmnpofgaaMC
import Derived.Test.YtkjpnpkmnpofgaaMD
import Derived.Deep.RegionWith
import Derived.Deep.DrawnRows
namespace Go.Proofs.Ytkjpnpkmnpofgaa
open Go.RowKit
attribute [local go_sem ↓] Go.wp_at_zero Go.wp_at_succ

/-- What the two calls of Find leave. -/
def TellSt (s : SP) (p : GP) (a : List Int) (clk0 : Int) (W0 wx : World) : Prop :=
  ∃ F K clk, Found p a F K clk ∧ clk ≤ clk0 + 4000 ∧ Src wx.heap.size s p F K clk a wx ∧ Below W0.heap.size W0 wx

theorem QRow.slen {base : Nat} {w : World} {v : Value} {l : List Int} (h : QRow base w v l) : ∃ a c, v = .slice a l.length c := by
  rcases h.2 with ⟨rfl, rfl⟩ | ⟨g, off, cap, cur, rfl, _⟩
  · exact ⟨_, _, rfl⟩
  · exact ⟨_, _, rfl⟩

/-- Find, told for the region. -/
def FPost (s : SP) (p : GP) (a : List Int) (clk0 : Int) (W0 w : World) (e : Ending) (w' : World) : Prop :=
  ∃ F av cv, e = .returned (.slice av (findTo F a p.n.toNat).length cv) ∧ QRow w.heap.size w' (.slice av (findTo F a p.n.toNat).length cv) (findTo F a p.n.toNat) ∧ IsFnd p a F ∧ Lim w.heap.size s.mut w w' ∧ TellSt s p a clk0 W0 w'

theorem find_tell {s : SP} {p : GP} {m : Nat} {F K : Int → Int} {clk0 : Int} {a a0 : List Int} {W0 w : World} (h : Src m s p F K clk0 a0 w) (hi : SInv p F K clk0) (hC : clk0 ≤ 2305843009213693952) (va : Value) (hva : Bytes8 w va a)
    (hW : W0.heap.size ≤ s.H) (hb : Below W0.heap.size W0 w) (hv : validE p = 0) : Calls Try.prog 14 #[.pointer (some ⟨s.b, 0, none⟩), va] w (FPost s p a clk0 W0 w) :=
  (find_any h hi hC va hva).mono fun e w' hp => by
    have hfb := findPost_below hp hW h.lo hb.size
    obtain ⟨h1, F', K', clk', vo, h2, h3, h4, rfl, h5⟩ := hp
    obtain ⟨av, cv, rfl⟩ := h5.slen
    exact ⟨F', av, cv, rfl, h5, h2.fnd hv, h1, F', K', clk', h2, h3, h4, hb.trans hfb⟩

theorem tell_eq {p : GP} {a f : List Int} {F : Int → Int} (h1 : IsFnd p a F) (h2 : IsFnd p a (setB f)) : decide (findTo F a p.n.toNat = findTo (setB f) a p.n.toNat) = true :=
  decide_eq_true (findTo_congr (fun x => h1.unique h2 x) _)

theorem findTo_small (F : Int → Int) (a : List Int) {n : Int} (hn : n ≤ 4000) : (findTo F a n.toNat).length * 8 ≤ 140737488351232 := by
  have := findTo_len F a n.toNat
  omega

theorem TellSt.below {s : SP} {p : GP} {a : List Int} {clk0 : Int} {W0 w : World} (h : TellSt s p a clk0 W0 w) : Below W0.heap.size W0 w := by
  obtain ⟨F, K, clk, h1, h2, h3, h4⟩ := h
  exact h4

theorem TellSt.on {s : SP} {p : GP} {a : List Int} {clk0 : Int} {W0 w w' : World} (h : TellSt s p a clk0 W0 w) (hb : Below w.heap.size w w') : TellSt s p a clk0 W0 w' := by
  obtain ⟨F, K, clk, h1, h2, h3, h4⟩ := h
  exact ⟨F, K, clk, h1, h2, (h3.below hb).mono hb.size (Nat.le_refl _), bon h4 hb⟩

theorem QRow.limKept {base n : Nat} {S : List Nat} {w w' : World} {v : Value} {l : List Int} (h : QRow base w v l) (hl : Lim n S w w') (hn : w.heap.size ≤ n) (hs : ∀ i ∈ S, i < base) : QRow base w' v l :=
  h.kept fun i hi hi2 _ => hl.block i (by omega) (fun hm => by have := hs i hm; omega)

def TR2 (p : GP) (w9 : World) (i : Value) (wx : World) : Prop := ∃ x : Int, 0 ≤ x ∧ x ≤ p.n + 2 ∧ i = .int .i64 x ∧ Below w9.heap.size w9 wx

set_option maxHeartbeats 4000000 in
set_option maxRecDepth 100000 in
theorem tells_walk (v vl : Value) (p : GP) (ls : List (List Int)) (w : World) (h : ProgIs w v p) (hl : Rows8 w vl ls) :
    Calls Try.prog 3 #[v, vl] w fun e w' => e = .returned (.bool true) ∧ Below w.heap.size w w' := by
  have h0 := h
  obtain ⟨vn, vs, vr, vm, rfl, hn, hnames, hshown, hrules, hmin⟩ := h
  obtain ⟨a0, c0, rfl, -, hl0, -⟩ := hnames.form
  obtain ⟨a1, c1, rfl, -, hl1, -, hcellR⟩ := hrules.form
  obtain ⟨al, cl, rfl, hcl1, hcl2, hln⟩ := hl.form
  have hal := bal (Below.refl w.heap.size w) (.cells #[.int .i64 p.n, .slice a0 p.names.length c0, vs, .slice a1 p.rules.length c1, vm] 27)
  have HP := Lib.hid (h0.below hal)
  have HL := Lib.hid (hl.below hal)
  have HCR := Lib.hid hcellR
  have hbk : Blk (w.alloc (.cells #[.int .i64 p.n, .slice a0 p.names.length c0, vs, .slice a1 p.rules.length c1, vm] 27)) w.heap.size [.int .i64 p.n, .slice a0 p.names.length c0, vs, .slice a1 p.rules.length c1, vm] 27 := Blk.new w _ _
  have HBK := Lib.hid hbk
  clear hbk hnames hshown hrules hmin h0 hl hcellR
  cases hfew : fewB p with
  | false =>
    go_enter Try.func3, Try.ntmps3
    go_wp2_with (first | (go_at_call 10; (with_reducible refine (few_any _ p _ HP.out).mono ?_); rintro e w1 ⟨h1, hb1⟩; rw [hfew] at h1; subst h1; have hc1 := bcell hb1; have HW1 := Lib.hid (bon hal hb1); have hz1 : w.heap.size < w1.heap.size := (by have := hb1.size; simp at this; omega)) | (go_at_call 11; (with_reducible refine (awake_any _).mono ?_); rintro e w3 ⟨rfl, hb3⟩))
    go_ret
    exact ⟨rfl, bon HW1.out hb3⟩
  | true =>
    by_cases hv : validE p = 0
    · have HV := Lib.hid hv
      clear hv
      go_enter Try.func3, Try.ntmps3
      go_upto_region 8 with (first | (go_at_call 10; (with_reducible refine (few_any _ p _ HP.out).mono ?_); rintro e w1 ⟨h1, hb1⟩; rw [hfew] at h1; subst h1; have hc1 := bcell hb1; have HW1 := Lib.hid (bon hal hb1); have hz1 : w.heap.size < w1.heap.size := (by have := hb1.size; simp at this; omega)) | (go_at_call 12; (with_reducible refine (new_valid (HP.out.below hb1) HV.out).mono ?_); rintro e w3 ⟨s, rfl, hb3, hsH, hs3⟩; have hc3 := bcell hb3; have hz3 : w.heap.size < w3.heap.size := (by have := hb3.size; omega); have HW3 := Lib.hid (bon HW1.out hb3); have HS3 := Lib.hid hs3; have hH : w.heap.size < s.H := (by omega)) | (go_at_call 13; (with_reducible refine (valid_ref _ p _ (HP.out.below (bon hb1 hb3))).mono ?_); rintro e w4 ⟨rfl, hb4⟩; rw [HV.out]; have HW4 := Lib.hid (bon HW3.out hb4); have HS4 := Lib.hid (HS3.out.below hb4)))
      obtain ⟨m, hmn, hm1, hm2⟩ : ∃ m : Nat, (if (10 : Int) < (ls.length : Int) then (10 : Int) else (ls.length : Int)) = m ∧ m ≤ ls.length ∧ m ≤ 10 := by
        by_cases h : (10 : Int) < (ls.length : Int)
        · exact ⟨10, by rw [if_pos h]; rfl, by omega, by omega⟩
        · exact ⟨ls.length, by rw [if_neg h], by omega, by omega⟩
      have HSRC0 : Hid (Calls Try.prog 15 #[.pointer (some ⟨s.b, 0, none⟩), .int .i64 1] w4 fun e w' => e = .returned (.tuple #[.int .i64 0, .bool false]) ∧ w4 = w') := Lib.hid (by
        have := source_any HS4.out 1 (Int.le_refl _)
        simpa using this)
      go_wp2_with (go_at_call 15; (with_reducible refine (HSRC0.out).mono ?_); rintro e w5 ⟨rfl, rfl⟩)
      have hV := validP HV.out
      have hpn := hV.n
      have hpr := hV.rules
      have HW04 := Lib.hid ((bon hb1 hb3).trans (hb4.mono (by have := hb1.size; have := hb3.size; omega)))
      have hHW : (w.alloc (.cells #[.int .i64 p.n, .slice a0 p.names.length c0, vs, .slice a1 p.rules.length c1, vm] 27)).heap.size ≤ s.H := by rw [hsH]; exact hb1.size
      have hnW : w.heap.size < (w.alloc (.cells #[.int .i64 p.n, .slice a0 p.names.length c0, vs, .slice a1 p.rules.length c1, vm] 27)).heap.size := by simp
      have HS5 := Lib.hid (HS4.out.mono (by have := hb4.size; omega) (Nat.le_refl _))
      clear hmn hV hc1 hc3 hb1 hb3 hb4 hs3 hsH hz1 hz3 hH HW1 HW3 HW4 HS3 HS4 HSRC0
      generalize w.alloc (.cells #[.int .i64 p.n, .slice a0 p.names.length c0, vs, .slice a1 p.rules.length c1, vm] 27) = W0 at *
      go_loopw [56] (fun i wx => OrdRel s p W0 m i wx) (fun i _ => m - (intOf i).toNat)
      case atStart => exact ⟨0, Nat.zero_le _, rfl, _, _, _, _, HS5.out, zero_inv p, by omega, HW04.out⟩
      case round =>
        obtain ⟨k, hk, rfl, F0, K0, clk0, a0', hs, hi, hclk, hb⟩ := hrel
        have HS := Lib.hid hs
        have HI := Lib.hid hi
        have HB := Lib.hid hb
        clear hs hi hb HS5 HW04
        by_cases hlt : k < m
        · obtain ⟨br, offr, vrow, rfl, hbr, hcr0, hrow⟩ := HL.out.at (show k < ls.length by omega)
          have hcr := (bcell HB.out _ _ hbr).trans hcr0
          obtain ⟨ar, nr, cr, rfl⟩ : ∃ ar nr cr, vrow = .slice ar nr cr := by obtain ⟨⟨x, y, e, -⟩, -⟩ := hrow; exact ⟨_, _, _, e⟩
          have HROW0 := Lib.hid hrow
          have hc0 : clk0 ≤ 2305843009213693952 := by omega
          have kx := fun o => (bcell HB.out _ o hnW).trans (HBK.out.cell o)
          have hzr : w.heap.size < wr.heap.size := by have := HB.out.size; omega
          generalize haE : ix8 ls k = a at *
          clear hrow hcr0 haE
          go_upto_region 14 with fail
          clear hcr
          have b0 := (Below.refl wr.heap.size wr).drew
          have hlo := HS.out.lo
          have htp := HS.out.top
          have hhi := HS.out.hi
          have HSd := Lib.hid (HS.out.below b0)
          have HBd := Lib.hid (bon HB.out b0)
          have HROWd := Lib.hid (HROW0.out.below HBd.out)
          have HPd := Lib.hid (HP.out.below HBd.out)
          have hsz : wr.drew.heap.size = wr.heap.size := rfl
          have HBT := Lib.hid b0
          have hmutlt : ∀ i ∈ s.mut, i < wr.heap.size := fun i hi => by
            simp only [SP.mut, List.mem_cons, List.not_mem_nil, or_false] at hi
            omega
          have HMUT := Lib.hid hmutlt
          have hzrd : w.heap.size < wr.drew.heap.size := hzr
          have hobj := HS.out.obj
          clear b0 hsz hmutlt hobj
          go_region_with (first
            | (go_at_call 16; (with_reducible refine (intsEq_any _ _ _ _ _ HIF1.out HIR1.out).mono ?_); rintro e w8 ⟨e8, hb8⟩; rw [tell_eq HFN1.out HRN1.out] at e8; subst e8; have HEND := Lib.hid (HTS1.out.on hb8); clear hb8)
            | (go_at_call 17; (with_reducible refine (find_ref _ _ p a _ (HP.out.below HTS0.out.below) HV.out (HROW0.out.below HTS0.out.below)).mono ?_); rintro e w5 ⟨f, avr, nvr, cvr, rfl, hq5, hf5, hb5⟩; have HIF1 := Lib.hid ((HQ4.out.ints (findTo_small _ _ hpn.2)).below hb5); have HIR1 := Lib.hid (hq5.ints (findTo_small _ _ hpn.2)); have HFN1 := HFN0; have HRN1 := Lib.hid hf5; have HTS1 := Lib.hid (HTS0.out.on hb5); clear hq5 hf5 hb5)
            | (go_at_call 14; (with_reducible refine (find_tell HSd.out HI.out hc0 _ HROWd.out hHW HBd.out HV.out).mono ?_); rintro e w4 ⟨F, av, cv, rfl, hq4, hf4, hl4, ht4⟩; have HQ4 := Lib.hid hq4; have HFN0 := Lib.hid hf4; have HTS0 := Lib.hid ht4; have kx4 := fun o => (bcell ht4.below _ o hnW).trans (HBK.out.cell o); clear hq4 hf4 hl4 ht4)
            | (go_at_call 14; (with_reducible refine (find_tell (HSd.out.below HBR.out) HI.out hc0 _ (HROW0.out.below (bon HBd.out HBR.out)) hHW (bon HBd.out HBR.out) HV.out).mono ?_); rintro e w5 ⟨F, av, cv, rfl, hq5, hf5, hl5, ht5⟩; have HIF1 := Lib.hid (hq5.ints (findTo_small _ _ hpn.2)); have HIR1 := Lib.hid ((HQR.out.limKept hl5 (Nat.le_refl _) HMUT.out).ints (findTo_small _ _ hpn.2)); have HFN1 := Lib.hid hf5; have HRN1 := HRN0; have HTS1 := Lib.hid ht5; have kx5 := fun o => (bcell ht5.below _ o hnW).trans (HBK.out.cell o); clear hq5 hf5 hl5 ht5)
            | (go_at_call 17; (with_reducible refine (find_ref _ _ p a _ HPd.out HV.out HROWd.out).mono ?_); rintro e w4 ⟨f, avr, nvr, cvr, rfl, hq4, hf4, hb4⟩; have HBR := Lib.hid hb4; have HQR := Lib.hid hq4; have HRN0 := Lib.hid hf4; have kx4 := fun o => (bcell (bon HBd.out hb4) _ o hnW).trans (HBK.out.cell o); clear hq4 hf4 hb4))
          all_goals
            have HB8 := Lib.hid HEND.out.below
            have kx8 := fun o => (bcell HB8.out _ o hnW).trans (HBK.out.cell o)
            obtain ⟨F, K, clk, hf, hclk8, hs8, -⟩ := HEND.out
            have HF := Lib.hid hf
            have HS8 := Lib.hid hs8
            have hclk9 : clk ≤ 4000 * ((k + 1 : Nat) : Int) := by push_cast; omega
            clear hf hs8
            go_upto_region 18 with (go_at_call 18; (with_reducible refine (founded_ref _ _ p a _ (HP.out.below HB8.out) HV.out (HROW0.out.below HB8.out)).mono ?_); rintro e w9 ⟨fl, avf, nvf, cvf, rfl, hq9, hf9, hfi9, hb9⟩; have hlen9 := hfi9.len; have HQ9 := Lib.hid (hq9.ints (by omega)); have HF9 := Lib.hid hf9; have HB9 := Lib.hid (bon HB8.out hb9); have HS9 := Lib.hid (HS8.out.below hb9); clear hq9 hf9 hfi9 hb9)
            have HIFF : Hid (∀ x, x ∈ fl ↔ 0 < F x) := Lib.hid (fun x => by
              rw [← setB_pos fl x]
              exact (HF9.out.unique (HF.out.fnd HV.out) x))
            obtain ⟨wo, rfl⟩ : ∃ wo : World, wo = wr := ⟨_, rfl⟩
            clear kx kx8
            go_loopw [12] (fun i wx => TR2 p w9 i wx) (fun i _ => (p.n + 2 - intOf i).toNat)
            case atStart => exact ⟨0, by omega, by omega, rfl, Below.refl _ _⟩
            case round =>
              obtain ⟨x, hx1, hx2, rfl, hbx⟩ := hrel
              have HBX := Lib.hid hbx
              have HBXW := Lib.hid (bon HB9.out hbx)
              have hkx := fun o => (bcell (bon HB9.out hbx) _ o hnW).trans (HBK.out.cell o)
              have HSX := Lib.hid (HS9.out.below hbx)
              have HQX := Lib.hid (HQ9.out.below hbx)
              clear hbx
              by_cases hltx : x ≤ p.n + 1
              · have HSRC := Lib.hid (source_any HSX.out x (by have := HF.out.lost.inv x; omega))
                by_cases hF : 0 < F x
                · obtain ⟨i, hi⟩ : ∃ i : Nat, F x = i + 1 := ⟨(F x - 1).toNat, by omega⟩
                  have hin := HF.out.lost.inv x
                  have hil : i < p.rules.length := by
                    rcases hin with h1 | h1
                    · omega
                    · have := h1.2.2.2.1.2.1; omega
                  have hi4 : i ≤ 40000 := by omega
                  have hinH : x ∈ (ixR p.rules i).head := by
                    rcases hin with h1 | h1
                    · omega
                    · have := h1.2.2.2.1.2.2
                      rw [hi, Int.add_sub_cancel] at this
                      simpa using this
                  have HSC : Hid (Calls Try.prog 15 #[.pointer (some ⟨s.b, 0, none⟩), .int .i64 x] wr fun e w' => e = .returned (.tuple #[.int .i64 i, .bool true]) ∧ wr = w') := Lib.hid (by
                    have := HSRC.out
                    rw [if_pos hF, decide_eq_true hF, hi, Int.add_sub_cancel] at this
                    exact this)
                  have HIN1 : Hid (decide (x ∈ fl) = true) := Lib.hid (decide_eq_true ((HIFF.out x).2 hF))
                  have HIN2 : Hid (decide (x ∈ (ixR p.rules i).head) = true) := Lib.hid (decide_eq_true hinH)
                  have HAV : Hid (avS p a (setB fl) i = true) := Lib.hid (by
                    have h1 := HF.out.lost.ok x hF
                    rw [hi, Int.add_sub_cancel] at h1
                    exact avB_mono HV.out ⟨by omega, by omega⟩ (fun l hl hh => by
                      rw [holds_set]
                      unfold holdsB at hh
                      simp only [Bool.and_eq_true, Bool.or_eq_true, decide_eq_true_eq] at hh ⊢
                      exact ⟨hh.1, hh.2.imp id (fun h6 => (setB_pos _ _).2 ((HIFF.out l).2 h6.1))⟩) h1)
                  obtain ⟨bR, offR, haR, hblR, hcR⟩ := HCR.out (by omega)
                  subst haR
                  obtain ⟨vh, vb, vw, ⟨-, rr1, -⟩, hsl⟩ := hcR i hil
                  obtain ⟨a3, c3, rfl, -, hl3, -, -⟩ := hsl.head.form
                  have hbwx := hal.trans (HBXW.out.mono (by omega))
                  have q1 := (bcell hbwx _ _ hblR).trans rr1
                  have HHD := Lib.hid (hsl.head.below hbwx)
                  clear hi hin hinH hF HSRC hcR rr1 hsl hbwx
                  go_wp2_with (first
                    | (go_at_call 15; (with_reducible refine (HSC.out).mono ?_); rintro e w5 ⟨rfl, rfl⟩)
                    | (go_at_call 19; (with_reducible refine (in_any _ fl _ HQX.out x).mono ?_); rintro e w5 ⟨e5, rfl⟩; rw [HIN1.out] at e5; subst e5)
                    | (go_at_call 19; (with_reducible refine (in_any _ _ _ HHD.out x).mono ?_); rintro e w5 ⟨e5, rfl⟩; rw [HIN2.out] at e5; subst e5)
                    | (go_at_call 20; (with_reducible refine (refAvail_any _ _ _ p a fl _ (HP.out.below HBXW.out) HV.out i hil (HROW0.out.below HBXW.out) HQX.out).mono ?_); rintro e w6 ⟨e6, hb6⟩; rw [HAV.out] at e6; subst e6; have HB6 := Lib.hid (bon HBX.out hb6); clear hb6))
                  first
                    | (go_roundw
                       case rel => (exact ⟨x + 1, by omega, by omega, rfl, HB6.out⟩)
                       case measure => (simp [intOf]; omega))
                    | (refine ⟨?_, ?_⟩
                       · (exact ⟨x + 1, by omega, by omega, rfl, HB6.out⟩)
                       · (simp [intOf]; omega))
                · have HSC : Hid (Calls Try.prog 15 #[.pointer (some ⟨s.b, 0, none⟩), .int .i64 x] wr fun e w' => e = .returned (.tuple #[.int .i64 0, .bool false]) ∧ wr = w') := Lib.hid (by
                    have := HSRC.out
                    rw [if_neg hF, decide_eq_false hF] at this
                    exact this)
                  have HIN1 : Hid (decide (x ∈ fl) = false) := Lib.hid (decide_eq_false (fun h => hF ((HIFF.out x).1 h)))
                  clear hF HSRC
                  go_wp2_with (first
                    | (go_at_call 15; (with_reducible refine (HSC.out).mono ?_); rintro e w5 ⟨rfl, rfl⟩)
                    | (go_at_call 19; (with_reducible refine (in_any _ fl _ HQX.out x).mono ?_); rintro e w5 ⟨e5, rfl⟩; rw [HIN1.out] at e5; subst e5))
                  first
                    | (go_roundw
                       case rel => (exact ⟨x + 1, by omega, by omega, rfl, HBX.out⟩)
                       case measure => (simp [intOf]; omega))
                    | (refine ⟨?_, ?_⟩
                       · (exact ⟨x + 1, by omega, by omega, rfl, HBX.out⟩)
                       · (simp [intOf]; omega))
              · go_wp2_with fail
                first
                  | (go_roundw
                     case rel => (exact ⟨k + 1, by omega, by go_num, F, K, clk, a, HSX.out.mono (by have := HB9.out.size; have := HBX.out.size; have := HSX.out.top; omega) (Nat.le_refl _), HF.out.lost.inv, hclk9, HBXW.out⟩)
                     case measure => (simp [intOf]; omega))
                  | (refine ⟨?_, ?_⟩
                     · (exact ⟨k + 1, by omega, by go_num, F, K, clk, a, HSX.out.mono (by have := HB9.out.size; have := HBX.out.size; have := HSX.out.top; omega) (Nat.le_refl _), HF.out.lost.inv, hclk9, HBXW.out⟩)
                     · (simp [intOf]; omega))
        · go_wp2_with (go_at_call 11; (with_reducible refine (awake_any _).mono ?_); rintro e w9 ⟨rfl, hb9⟩)
          go_ret
          exact ⟨rfl, bon (hal.trans (HB.out.mono (by omega))) hb9⟩
    · have hve : (validE p != 0) = true := by simp [hv]
      have HNV := Lib.hid hv
      clear hv
      go_enter Try.func3, Try.ntmps3
      go_wp2_with (first | (go_at_call 10; (with_reducible refine (few_any _ p _ HP.out).mono ?_); rintro e w1 ⟨h1, hb1⟩; rw [hfew] at h1; subst h1; have hc1 := bcell hb1; have HW1 := Lib.hid (bon hal hb1); have hz1 : w.heap.size < w1.heap.size := (by have := hb1.size; simp at this; omega)) | (go_at_call 12; (with_reducible refine (newInv _ p _ (HP.out.below hb1) HNV.out).mono ?_); rintro e w3 ⟨rfl, hb3⟩; have hc3 := bcell hb3; have HW3 := Lib.hid (bon HW1.out hb3)) | (go_at_call 13; (with_reducible refine (valid_ref _ p _ (HP.out.below (bon hb1 hb3))).mono ?_); rintro e w4 ⟨rfl, hb4⟩; have HW4 := Lib.hid (bon HW3.out hb4)) | (go_at_call 14; (with_reducible refine (find_nil _ _).mono ?_); rintro e w5 ⟨rfl, rfl⟩) | (go_at_call 11; (with_reducible refine (awake_any _).mono ?_); rintro e w6 ⟨rfl, hb6⟩))
      go_ret
      exact ⟨rfl, bon HW4.out hb6⟩

theorem tells_law {v vl : Value} {p : GP} {ls : List (List Int)} {W : World} (h : ProgIs W v p) (hl : Rows8 W vl ls) : Calls Try.prog 3 #[v, vl] W fun e w' => e = .returned (.bool true) ∧ Below W.heap.size W w' := tells_walk v vl p ls W h hl

end Go.Proofs.Ytkjpnpkmnpofgaa
