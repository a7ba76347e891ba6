/- My texts Spp, merged. -/
import Derived.Test.YthclpkhaenaknaaGreatDoorM16
import Derived.Test.YthclpkhaenaknaaGreatDoorM21
import Derived.Test.YthclpkhaenaknaaGreatDoorM24

/- ostlerlaw27.LoopsSupport returns true and writes nothing that was there. -/
namespace Go.Proofs.YthclpkhaenaknaaGreatDoor
open Go.RowKit

/-- What LoopsSupport leans on. -/
structure SpSt (w : World) (p : GP) (vn vs vr vm : Value) (W : World) : Prop where
  box : Blk W w.heap.size [.int .i64 p.n, vn, vs, vr, vm] 27
  prog : ProgIs W (.agg #[.int .i64 p.n, vn, vs, vr, vm]) p
  below : Below w.heap.size w W

theorem SpSt.on {w W W' : World} {p : GP} {vn vs vr vm : Value} (h : SpSt w p vn vs vr vm W) (hb : Below W.heap.size W W') : SpSt w p vn vs vr vm W' := ⟨h.box.below hb, h.prog.below hb, bon h.below hb⟩

set_option maxHeartbeats 4000000 in
set_option maxRecDepth 100000 in
theorem spp_walk (vp : Value) (p : GP) (which : Int) (w : World) (hP : ProgIs w vp p) (hw : 0 ≤ which ∧ which ≤ 255) :
    Calls Tryz.prog 7 #[vp, .int .u8 which] w fun e w' => e = .returned (.bool true) ∧ Below w.heap.size w w' := by
  have hP0 := hP
  obtain ⟨vn, vs, vr, vm, rfl, hPS⟩ := hP
  have hpn := hPS.n
  obtain ⟨a1, c1, rfl, -, hl1, -, -⟩ := hPS.rules.form
  have hal : Below w.heap.size w (w.alloc (.cells #[.int .i64 p.n, vn, vs, .slice a1 p.rules.length c1, vm] 27)) := bal (Below.refl _ _) _
  have HS0 : Hid (SpSt w p vn vs (.slice a1 p.rules.length c1) vm (w.alloc (.cells #[.int .i64 p.n, vn, vs, .slice a1 p.rules.length c1, vm] 27))) := Lib.hid ⟨Blk.new w _ _, hP0.below hal, hal⟩
  unfold InI at hpn
  clear hP0 hPS hal
  go_enter Tryz.func7, Tryz.ntmps7
  go_upto_region 1 with fail
  have kx0 := HS0.out.box.cell
  generalize w.alloc (.cells #[.int .i64 p.n, vn, vs, .slice a1 p.rules.length c1, vm] 27) = W at *
  cases hfw : fewB p with
  | false =>
    have HFW := Lib.hid hfw
    clear hfw
    go_wp2_with (first | (go_at_call 8; (with_reducible refine (few_any _ p _ HS0.out.prog).mono ?_); rintro e w1 ⟨h1, hb1⟩; rw [HFW.out] at h1; subst h1; have HS1 := Lib.hid (HS0.out.on hb1); have kx1 := HS1.out.box.cell; clear hb1) | (go_at_call 9; (with_reducible refine (awake27_any _).mono ?_); rintro e w9 ⟨rfl, hb9⟩; have HS9 := Lib.hid (HS1.out.on hb9); have kx9 := HS9.out.box.cell; clear hb9))
    go_ret
    exact ⟨rfl, HS9.out.below⟩
  | true =>
    have HFW := Lib.hid hfw
    clear hfw
    by_cases hv : validE p = 0
    · have hve : (validE p != 0) = false := by simp [hv]
      have HV := Lib.hid hv
      have hn0 := (validP hv).n
      have hlc := compL_len p
      have hCV := compV_valid hv
      have hct := hCV.lenTo (Nat.le_refl _)
      rw [compTo_len] at hct
      have hf10 : p.n ≤ 10 := (few_len HFW.out).1
      by_cases h0 : p.n = 0
      · have h0e : (p.n == 0) = true := by simp [h0]
        clear h0
        go_wp2_with (first | (go_at_call 8; (with_reducible refine (few_any _ p _ HS0.out.prog).mono ?_); rintro e w1 ⟨h1, hb1⟩; rw [HFW.out] at h1; subst h1; have HS1 := Lib.hid (HS0.out.on hb1); have kx1 := HS1.out.box.cell; clear hb1) | (go_at_call 17; (with_reducible refine (valid_any _ p w1 HS1.out.prog).mono ?_); rintro e w2 ⟨rfl, hb2⟩; have HS2 := Lib.hid (HS1.out.on hb2); have kx2 := HS2.out.box.cell; clear hb2) | (go_at_call 9; (with_reducible refine (awake27_any _).mono ?_); rintro e w9 ⟨rfl, hb9⟩; have HS9 := Lib.hid (HS2.out.on hb9); have kx9 := HS9.out.box.cell; clear hb9))
        go_ret
        exact ⟨rfl, HS9.out.below⟩
      · have h0e : (p.n == 0) = false := by simp [h0]
        obtain ⟨u, hu1, hu2⟩ : ∃ u : Nat, which % p.n = u ∧ (u : Int) < p.n := by
          have h1 := Int.emod_nonneg which h0
          have h2 := Int.emod_lt_of_pos which (show (0 : Int) < p.n by omega)
          exact ⟨(which % p.n).toNat, by omega, by omega⟩
        have hu3 : Int.tmod which p.n = u := by rw [Int.tmod_eq_emod_of_nonneg hw.1, hu1]
        have HAT := Lib.hid (compL_atom (p := p) (u := u + 1) (by omega) (by omega))
        have HVA := Lib.hid (support_valid (u := ((u + 1 : Nat) : Int)) hv ⟨by omega, by omega⟩)
        have HCP : Hid (∀ (v : Value) (W : World), ProgIs W v p → Calls Tryz.prog 25 #[v] W fun e w' => ∃ vo, e = .returned (.tuple #[vo, .int .i64 0]) ∧ PBsIs w' vo (compL p) ∧ Below W.heap.size W w') := Lib.hid fun v W hW => by
          have := compl_any v p W hW
          rw [if_pos HV.out, if_pos HV.out] at this
          exact this
        obtain ⟨nC, hnC⟩ : ∃ n, (compL p).length = n := ⟨_, rfl⟩
        have hC1 : p.n ≤ nC ∧ nC ≤ 1000000000 := by omega
        rw [hnC] at HAT
        have HNC := Lib.hid hnC
        clear hv h0 hCV hlc hct
        go_upto_region 5 with (first | (go_at_call 8; (with_reducible refine (few_any _ p _ HS0.out.prog).mono ?_); rintro e w1 ⟨h1, hb1⟩; rw [HFW.out] at h1; subst h1; have HS1 := Lib.hid (HS0.out.on hb1); have kx1 := HS1.out.box.cell; clear hb1) | (go_at_call 17; (with_reducible refine (valid_any _ p w1 HS1.out.prog).mono ?_); rintro e w2 ⟨rfl, hb2⟩; have HS2 := Lib.hid (HS1.out.on hb2); have kx2 := HS2.out.box.cell; clear hb2) | (go_at_call 25; (with_reducible refine (HCP.out _ w2 HS2.out.prog).mono ?_); rintro e w3 ⟨vo, rfl, ho, hb3⟩; have HS3 := Lib.hid (HS2.out.on hb3); have kx3 := HS3.out.box.cell; have HO3 := Lib.hid ho; obtain ⟨ao, co, rfl, -, -, -, hco⟩ := ho.form; have HCO := Lib.hid hco; clear hb3 ho hco))
        clear kx0 kx1 kx2
        obtain ⟨bo, oo, rfl, hbo, hcc⟩ := HCO.out (by have := HNC.out; omega)
        obtain ⟨q, hq⟩ : ∃ q, nC - p.n.toNat + (u + 1) - 1 = q := ⟨_, rfl⟩
        rw [hq] at HAT
        obtain ⟨vl, vk, ⟨k0, k1, k2⟩, hsl⟩ := hcc q (by have := HNC.out; omega)
        rw [HAT.out] at k2 hsl
        obtain ⟨al, cl, rfl, -⟩ := hsl.lits.form
        obtain ⟨ak, ck, rfl, -⟩ := hsl.coefs.form
        have hq2 : (nC : Int) - p.n + (1 + (u : Int)) - 1 = q := by omega
        have hq3 : q < nC := by omega
        have hal := bal (Below.refl w3.heap.size w3) (.cells #[.slice al (atomC p ((u + 1 : Nat) : Int)).lits.length cl, .slice ak (atomC p ((u + 1 : Nat) : Int)).coefs.length ck, .int .i64 (atomC p ((u + 1 : Nat) : Int)).bound] 30)
        have hs4 := HS3.out.on hal
        have HPB := Lib.hid (hsl.is.below hal)
        have HBB := Lib.hid (Blk.new w3 [.slice al (atomC p ((u + 1 : Nat) : Int)).lits.length cl, .slice ak (atomC p ((u + 1 : Nat) : Int)).coefs.length ck, .int .i64 (atomC p ((u + 1 : Nat) : Int)).bound] 30)
        have HS4 := Lib.hid hs4
        have hlb := hsl.bound
        clear hsl hcc hq HCO HCP HAT hs4 hal
        generalize (atomC p ((u + 1 : Nat) : Int)) = c at *
        go_upto_region 8 with fail
        generalize w3.alloc (.cells #[.slice al c.lits.length cl, .slice ak c.coefs.length ck, .int .i64 c.bound] 30) = W4 at *
        have kx4 := HS4.out.box.cell
        have kc4 := HBB.out.cell
        have hz1 : w.heap.size < W4.heap.size := HS4.out.box.lt
        have hz2 : w3.heap.size < W4.heap.size := HBB.out.lt
        have hal5 := bal (Below.refl W4.heap.size W4) (.cells #[.int .i64 (1 + (u : Int))] 3)
        have HS5 := Lib.hid (HS4.out.on hal5)
        have HPB5 := Lib.hid (HPB.out.below hal5)
        have HIN : Hid (Ints (W4.alloc (.cells #[.int .i64 (1 + (u : Int))] 3)) (.slice (some ⟨W4.heap.size, 0, none⟩) 1 1) [((u + 1 : Nat) : Int)]) := Lib.hid (by
          rw [show ((u + 1 : Nat) : Int) = 1 + (u : Int) by omega]
          exact (Blk.new W4 [.int .i64 (1 + (u : Int))] _).ints1 (by unfold InI; omega))
        clear hal5 k0 k1 k2 kx3
        go_wp2_with (first
          | (go_at_call 14; (with_reducible refine (lval_any _ _ _ p [((u + 1 : Nat) : Int)] c _ HS5.out.prog HIN.out HPB5.out).mono ?_); rintro e w6 ⟨e1, hb6⟩; rw [HVA.out] at e1; subst e1; have HS6 := Lib.hid (HS5.out.on hb6); clear hb6)
          | (go_at_call 9; (with_reducible refine (awake27_any _).mono ?_); rintro e w9 ⟨rfl, hb9⟩; have HS9 := Lib.hid (HS6.out.on hb9); clear hb9))
        go_ret
        exact ⟨rfl, HS9.out.below⟩
    · have hve : (validE p != 0) = true := by simp [hv]
      clear hv
      go_wp2_with (first | (go_at_call 8; (with_reducible refine (few_any _ p _ HS0.out.prog).mono ?_); rintro e w1 ⟨h1, hb1⟩; rw [HFW.out] at h1; subst h1; have HS1 := Lib.hid (HS0.out.on hb1); have kx1 := HS1.out.box.cell; clear hb1) | (go_at_call 17; (with_reducible refine (valid_any _ p w1 HS1.out.prog).mono ?_); rintro e w2 ⟨rfl, hb2⟩; have HS2 := Lib.hid (HS1.out.on hb2); have kx2 := HS2.out.box.cell; clear hb2) | (go_at_call 9; (with_reducible refine (awake27_any _).mono ?_); rintro e w9 ⟨rfl, hb9⟩; have HS9 := Lib.hid (HS2.out.on hb9); have kx9 := HS9.out.box.cell; clear hb9))
      go_ret
      exact ⟨rfl, HS9.out.below⟩

theorem support_law {W : World} {vp : Value} {p : GP} (hP : ProgIs W vp p) (x : Int) (hx : (Lit.int .u8 x).wf = true) :
    Calls Tryz.prog 7 #[vp, .int .u8 x] W fun e w' => e = .returned (.bool true) ∧ Below W.heap.size W w' :=
  spp_walk vp p x W hP (bounds_u8 hx)

end Go.Proofs.YthclpkhaenaknaaGreatDoor
