/- stable.is, stable.Is: of a program without disjunctions. -/
import Derived.Test.YtdoecchigfdilaaStb1Q
import Derived.Test.YtdoecchigfdilaaRdc7Q
import Derived.Test.YtdoecchigfdilaaRed2Q
import Derived.Test.YtdoecchigfdilaaMD
namespace Go.Proofs.Ytdoecchigfdilaa
open Go.RowKit

theorem least_intQ (v : Value) (R : List GR) (n : Int) (w : World) (h : RulesIs w v R) (hB : definiteB n R = true) : Calls Try.prog 58 #[.int .i64 n, v] w (LeastPost R n.toNat w) := by
  have hr := (definiteB_spec hB).rng
  obtain ⟨k, rfl⟩ : ∃ k : Nat, n = k := ⟨n.toNat, by omega⟩
  rw [Int.toNat_natCast]
  exact least_any v R k w h hB

/-- m is a stable model of a program without disjunctions. -/
def StabIs (p : GP) (m : List Int) (b : Bool) : Prop := ∀ F, IsFnd p (extA p m) F → b = (suppB p m && decide (findTo F (extA p m) p.n.toNat = []))

theorem StabIs.no {p : GP} {m : List Int} (h : modelsB p m = false) : StabIs p m false := fun F _ => by
  unfold suppB; rw [h]; rfl

theorem StabIs.yes {p : GP} {m M : List Int} (hv : validE p = 0) (hf : flatP p = true) (hm : setQ p.n m = true) (h : modelsB p m = true) (hM : IsLeast (redL p m) M) (hs : M.Pairwise (· < ·)) : StabIs p m (decide (M = m)) := fun F hF => by
  have := stable_law hv hf hm hF hM hs
  rw [h, Bool.true_and] at this
  exact this

set_option maxHeartbeats 4000000 in
set_option maxRecDepth 100000 in
theorem is_any (v vm : Value) (p : GP) (m : List Int) (w : World) (h : ProgIs w v p) (hm : Ints w vm m) (hv : validE p = 0) (hf : flatP p = true) (hs : setQ p.n m = true) (hl : (redL p m).length ≤ 40000) (hml : m.length ≤ 1000000000) :
    Calls Try.prog 36 #[v, vm, .bool false] w fun e w' => ∃ b, e = .returned (.bool b) ∧ StabIs p m b ∧ Below w.heap.size w w' := by
  have h0 := h
  obtain ⟨vn, vs, vr, vmn, rfl, -⟩ := h
  have hal := bal (Below.refl w.heap.size w) (.cells #[.int .i64 p.n, vn, vs, vr, vmn] 27)
  have HBX := Lib.hid (Blk.new w [.int .i64 p.n, vn, vs, vr, vmn] 27)
  have kx := HBX.out.cell
  have hlt := HBX.out.lt
  have HP0 := Lib.hid h0
  have HM0 := Lib.hid hm
  have HP := Lib.hid (h0.below hal)
  have HM := Lib.hid (hm.below hal)
  have HAL := Lib.hid hal
  have HV := Lib.hid hv
  have HF := Lib.hid hf
  have HS := Lib.hid hs
  have HDF := Lib.hid (red_definite hv hf hl)
  clear hal h0 hm
  cases hmo : modelsB p m with
  | false =>
    have HC : Hid ((decide (checkE p m = 0) && modelsB p m) = false ∧ checkE p m = 0) := Lib.hid ⟨by rw [hmo, Bool.and_false], by unfold checkE; rw [if_neg (by simp [hv]), hs]; rfl⟩
    have HMO := Lib.hid hmo
    clear hmo hv hs hf
    go_enter Try.func36, Try.ntmps36
    go_wp2_with (go_at_call 39; (with_reducible refine (models_any _ _ p m _ HP.out HM.out).mono ?_); rintro e w1 ⟨e1, hb1⟩; rw [HC.out.1, HC.out.2] at e1; subst e1)
    go_ret
    exact ⟨false, rfl, StabIs.no HMO.out, bon HAL.out hb1⟩
  | true =>
    have HC : Hid ((decide (checkE p m = 0) && modelsB p m) = true ∧ checkE p m = 0) := Lib.hid (by
      have : checkE p m = 0 := by unfold checkE; rw [if_neg (by simp [hv]), hs]; rfl
      exact ⟨by rw [hmo, decide_eq_true this]; rfl, this⟩)
    have HMO := Lib.hid hmo
    clear hmo hv hs hf
    go_enter Try.func36, Try.ntmps36
    go_wp2_with (first
      | (go_at_call 59; (with_reducible refine (sEqual_any _ _ M m _ (HQM.out.ints hML) (HM0.out.below HB3.out)).mono ?_); rintro e w4 ⟨rfl, hb4⟩)
      | (go_at_call 58; (with_reducible refine (least_intQ _ (redL p m) p.n _ HRU.out HDF.out).mono ?_); rintro e w3 ⟨M, ao, co, rfl, hqM, hlM, hsM, hrM, hlenM, hb3⟩; have HQM := Lib.hid hqM; have HLM := Lib.hid hlM; have HSM := Lib.hid hsM; have HB3 := Lib.hid (bon HB2.out hb3); have hML : M.length * 8 ≤ 140737488351232 := (by have := (validP HV.out).n; omega); clear hqM hlM hsM hrM hb3)
      | (go_at_call 56; (with_reducible refine (reduct_any _ _ p m _ (HP0.out.below HB1.out) (HM0.out.below HB1.out) HV.out HS.out hml).mono ?_); rintro e w2 ⟨vrr, rfl, hru, hb2⟩; have HRU := Lib.hid hru; have HB2 := Lib.hid (bon HB1.out hb2); have kx2 := fun o => (bcell hb2 _ o hlt1).trans (kx1 o); obtain ⟨ar, cr, rfl, -⟩ := hru.form; clear hru hb2)
      | (go_at_call 39; (with_reducible refine (models_any _ _ p m _ HP.out HM.out).mono ?_); rintro e w1 ⟨e1, hb1⟩; rw [HC.out.1, HC.out.2] at e1; subst e1; have kx1 := fun o => (bcell hb1 _ o hlt).trans (kx o); have hlt1 := Nat.lt_of_lt_of_le hlt hb1.size; have HB1 := Lib.hid (bon HAL.out hb1); clear hb1))
    go_ret
    exact ⟨_, rfl, StabIs.yes HV.out HF.out HS.out HMO.out HLM.out HSM.out, bon HB3.out hb4⟩

set_option maxHeartbeats 4000000 in
set_option maxRecDepth 100000 in
theorem Is_any (v vm : Value) (p : GP) (m : List Int) (w : World) (h : ProgIs w v p) (hm : Ints w vm m) (hv : validE p = 0) (hf : flatP p = true) (hs : setQ p.n m = true) (hl : (redL p m).length ≤ 40000) (hml : m.length ≤ 1000000000) :
    Calls Try.prog 13 #[v, vm] w fun e w' => ∃ b, e = .returned (.tuple #[.bool b, .int .i64 0]) ∧ StabIs p m b ∧ Below w.heap.size w w' := by
  have h0 := h
  obtain ⟨vn, vs, vr, vmn, rfl, -⟩ := h
  have hal := bal (Below.refl w.heap.size w) (.cells #[.int .i64 p.n, vn, vs, vr, vmn] 27)
  have HBX := Lib.hid (Blk.new w [.int .i64 p.n, vn, vs, vr, vmn] 27)
  have kx := HBX.out.cell
  have hlt := HBX.out.lt
  have HP0 := Lib.hid h0
  have HM0 := Lib.hid hm
  have HP := Lib.hid (h0.below hal)
  have HAL := Lib.hid hal
  have HV := Lib.hid hv
  have HF := Lib.hid hf
  have HS := Lib.hid hs
  have HD := Lib.hid (disj_flat hf)
  clear hal h0 hm hv hf hs
  go_enter Try.func13, Try.ntmps13
  go_wp2_with (first
    | (go_at_call 36; (with_reducible refine (is_any _ _ p m _ (HP0.out.below HB2.out) (HM0.out.below HB2.out) HV.out HF.out HS.out hl hml).mono ?_); rintro e w4 ⟨b, rfl, hst, hb4⟩)
    | (go_at_call 35; (with_reducible refine (redSet_any _ p.n m _ (HM0.out.below HB2.out)).mono ?_); rintro e w3 ⟨e1, rfl⟩; rw [HS.out] at e1; subst e1)
    | (go_at_call 34; (with_reducible refine (disj_any _ p _ (HP0.out.below HB1.out)).mono ?_); rintro e w2 ⟨e1, hb2⟩; rw [HD.out] at e1; subst e1; have kx2 := fun o => (bcell hb2 _ o hlt1).trans (kx1 o); have HB2 := Lib.hid (bon HB1.out hb2); clear hb2)
    | (go_at_call 6; (with_reducible refine (valid_any _ p _ HP.out).mono ?_); rintro e w1 ⟨e1, hb1⟩; rw [HV.out] at e1; subst e1; have kx1 := fun o => (bcell hb1 _ o hlt).trans (kx o); have hlt1 := Nat.lt_of_lt_of_le hlt hb1.size; have HB1 := Lib.hid (bon HAL.out hb1); clear hb1))
  go_ret2
  exact ⟨b, rfl, hst, bon HB2.out hb4⟩

end Go.Proofs.Ytdoecchigfdilaa
