/- complete.set; reduct.Body: contracts. -/
import Derived.Test.YtdoecchigfdilaaRed2Q
import Derived.Test.YtdoecchigfdilaaMA
import Derived.Deep.RegionWith
namespace Go.Proofs.Ytdoecchigfdilaa
open Go.RowKit

set_option maxHeartbeats 2000000 in
theorem cset_any (v vs : Value) (p : GP) (S : List Int) (w : World) (h : ProgIs w v p) (hs : Ints w vs S) :
    Calls Try.prog 37 #[v, vs] w fun e w' => e = .returned (.bool (setQ p.n S)) ∧ Below w.heap.size w w' := by
  obtain ⟨vn, vsh, vr, vm, rfl, hn, -⟩ := h
  have hal := bal (Below.refl w.heap.size w) (.cells #[.int .i64 p.n, vn, vsh, vr, vm] 27)
  have hbk := Blk.new w [.int .i64 p.n, vn, vsh, vr, vm] 27
  obtain ⟨a1, c1, rfl, -, hl1, -, hcell⟩ := (hs.below hal).form
  clear hs
  unfold InI at hn
  go_enter Try.func37, Try.ntmps37
  go_upto_region 1 with fail
  have kx := hbk.cell 0
  clear hbk
  generalize w.alloc (.cells #[.int .i64 p.n, vn, vsh, vr, vm] 27) = W0 at *
  go_wp2
  go_loop [9] (fun i => ∃ k : Nat, k ≤ S.length ∧ i = .int .i64 k ∧ Hid (∀ j, j < k → setTo p.n S j = true)) (fun i => S.length - (intOf i).toNat)
  case atStart => exact ⟨0, by omega, rfl, Lib.hid (fun j hj => absurd hj (Nat.not_lt_zero _))⟩
  case round =>
    obtain ⟨k, hk, rfl, HA⟩ := hrel
    have HF : Hid (∀ k, k < S.length → setTo p.n S k = false → setQ p.n S = false) := Lib.hid (fun k hk h => by unfold setQ; rw [allR_false k hk h])
    by_cases hlt : k < S.length
    · obtain ⟨b, off, rfl, hbl, hc⟩ := hcell (by omega)
      have hk1 := hc k hlt
      by_cases h1 : ix S k < 1
      · have HN : Hid (setTo p.n S k = false) := Lib.hid (by unfold setTo; rw [decide_eq_false (by omega)]; rfl)
        clear hc hcell
        go_wp2
        go_ret
        exact ⟨ret_bool (HF.out k hlt HN.out).symm, hal⟩
      · by_cases h2 : p.n < ix S k
        · have HN : Hid (setTo p.n S k = false) := Lib.hid (by unfold setTo; rw [decide_eq_false (by omega)]; rfl)
          clear hc hcell
          go_wp2
          go_ret
          exact ⟨ret_bool (HF.out k hlt HN.out).symm, hal⟩
        · cases k with
          | zero =>
            have hk0 : W0.cell? ⟨b, off, none⟩ = some (.int .i64 (ix S 0)) := hc 0 hlt
            clear hk1
            have HN := Lib.hid (lt_succ_all HA.out (show setTo p.n S 0 = true by unfold setTo; rw [decide_eq_true (by omega)]; rfl))
            clear hc hcell
            go_wp2
            first
              | (go_round
                 case rel => (exact ⟨0 + 1, by omega, by go_num, HN⟩)
                 case measure => (simp [intOf]; omega))
              | (refine ⟨?_, ?_⟩
                 · (exact ⟨0 + 1, by omega, by go_num, HN⟩)
                 · (simp [intOf]; omega))
          | succ k =>
            have hk0 := hc k (by omega)
            have e1 : (((k + 1 : Nat) : Int) - 1).toNat = k := by omega
            by_cases h3 : ix S k < ix S (k + 1)
            · have HN := Lib.hid (lt_succ_all HA.out (show setTo p.n S (k + 1) = true by unfold setTo; rw [decide_eq_true (by omega), Nat.add_sub_cancel, decide_eq_true h3]; simp))
              clear hc hcell
              go_wp2
              first
                | (go_round
                   case rel => (exact ⟨k + 1 + 1, by omega, by go_num, HN⟩)
                   case measure => (simp [intOf]; omega))
                | (refine ⟨?_, ?_⟩
                   · (exact ⟨k + 1 + 1, by omega, by go_num, HN⟩)
                   · (simp [intOf]; omega))
            · have HN : Hid (setTo p.n S (k + 1) = false) := Lib.hid (by unfold setTo; rw [Nat.add_sub_cancel, decide_eq_false h3]; simp)
              clear hc hcell
              go_wp2
              go_ret
              exact ⟨ret_bool (HF.out (k + 1) hlt HN.out).symm, hal⟩
    · have HN : Hid (setQ p.n S = true) := Lib.hid (by unfold setQ; rw [allR_true (fun j hj => HA.out j (by omega))])
      go_wp2
      go_ret
      exact ⟨ret_bool HN.out.symm, hal⟩

/-! ### reduct.Body -/
theorem bodyw_any (x : Int) (w : World) : Calls Try.prog 61 #[.int .i64 x] w fun e w' => e = .returned (.bool (decide (x < 0) || decide (1048576 < x))) ∧ w = w' := by
  by_cases h : x < 0
  · go_enter Try.func61, Try.ntmps61
    go_wp2
    go_ret
    exact ⟨ret_bool (by rw [decide_eq_true h]; rfl), rfl⟩
  · by_cases h2 : 1048576 < x
    · go_enter Try.func61, Try.ntmps61
      go_wp2
      go_ret
      exact ⟨ret_bool (by simp [h2]), rfl⟩
    · go_enter Try.func61, Try.ntmps61
      go_wp2
      go_ret
      exact ⟨ret_bool (by simp; omega), rfl⟩

set_option maxHeartbeats 1000000 in
theorem idx_bw (v : Value) (l : List Int) (w : World) (h : Ints w v l) (g : Nat → Bool) 
    (hg : ∀ w', Below w.heap.size w w' → ∀ j, j < l.length → Calls Try.prog 61 #[.int .i64 (ix l j)] w' fun e w'' => e = .returned (.bool (g j)) ∧ Below w'.heap.size w' w'') :
    Calls Try.prog 50 #[v, .func (.func 61) #[] #[]] w fun e w' => ∃ r, e = .returned (.int .i64 r) ∧ IxP l.length g r ∧ Below w.heap.size w w' := by
  obtain ⟨a1, c1, rfl, -, hl1, -, hcell⟩ := h.form
  have HG := Lib.hid hg
  clear h hg
  go_enter Try.func50, Try.ntmps50
  go_wp2
  go_loopw [8] (fun i wx => IxR l.length g w i wx) (fun i _ => l.length - (intOf i).toNat)
  case atStart => exact ⟨0, by omega, rfl, fun j hj => absurd hj (Nat.not_lt_zero _), Below.refl _ _⟩
  case round =>
    obtain ⟨k, hk, rfl, hall, hb⟩ := hrel
    have HA := Lib.hid hall
    clear hall
    by_cases hlt : k < l.length
    · obtain ⟨b, off, rfl, hbl, hc⟩ := hcell (by omega)
      have hk1 := (bcell hb _ _ hbl).trans (hc k hlt)
      clear hc hcell
      cases g1 : g k with
      | true =>
        have HK : Hid (_ = true) := Lib.hid g1
        have HC := Lib.hid (HG.out _ hb k hlt)
        rw [g1] at HC
        clear g1
        go_wp2_with (go_at_call 61; refine (HC.out).mono ?_; rintro e w1 ⟨rfl, hb1⟩)
        go_ret
        exact ⟨_, rfl, .inr ⟨k, hlt, rfl, HK.out, HA.out⟩, bon hb hb1⟩
      | false =>
        have HN := Lib.hid (lt_succ_all HA.out g1)
        have HC := Lib.hid (HG.out _ hb k hlt)
        rw [g1] at HC
        clear g1
        go_wp2_with (go_at_call 61; refine (HC.out).mono ?_; rintro e w1 ⟨rfl, hb1⟩)
        first
          | (go_roundw
             case rel => (exact ⟨k + 1, by omega, by go_num, HN.out, bon hb hb1⟩)
             case measure => (simp [intOf]; omega))
          | (refine ⟨?_, ?_⟩
             · (exact ⟨k + 1, by omega, by go_num, HN.out, bon hb hb1⟩)
             · (simp [intOf]; omega))
    · have HN : Hid (∀ j, j < l.length → g j = false) := Lib.hid (fun j hj => HA.out j (by omega))
      go_wp2
      go_ret
      exact ⟨_, rfl, .inl ⟨rfl, HN.out⟩, hb⟩

set_option maxHeartbeats 1000000 in
theorem ctn_bw (v : Value) (l : List Int) (w : World) (h : Ints w v l) (g : Nat → Bool) 
    (hg : ∀ w', Below w.heap.size w w' → ∀ j, j < l.length → Calls Try.prog 61 #[.int .i64 (ix l j)] w' fun e w'' => e = .returned (.bool (g j)) ∧ Below w'.heap.size w' w'') :
    Calls Try.prog 40 #[v, .func (.func 61) #[] #[]] w fun e w' => e = .returned (.bool (anyR l.length g)) ∧ Below w.heap.size w w' := by
  have HI := Lib.hid (idx_bw v l w h g  hg)
  obtain ⟨a1, c1, rfl, -⟩ := h.form
  clear h hg
  go_enter Try.func40, Try.ntmps40
  go_wp2_with (go_at_call 50; refine (HI.out).mono ?_; rintro e w1 ⟨r, rfl, hr, hb1⟩; have HR := Lib.hid hr; clear hr)
  go_ret
  exact ⟨ret_bool HR.out.any, hb1⟩

set_option maxHeartbeats 4000000 in
theorem rBody_any (v vm : Value) (r : GR) (m : List Int) (w : World) (hr : RuleIs w v r) (hm : Ints w vm m) (hml : m.length ≤ 1000000000) {n : Int} (hV : BodyV r n) :
    Calls Try.prog 38 #[v, vm] w fun e w' => e = .returned (.bool (bodyT r m)) ∧ Below w.heap.size w w' := by
  obtain ⟨vh, vb, vw, rfl, hsl⟩ := hr
  have hal := bal (Below.refl w.heap.size w) (.cells #[.bool r.choice, vh, .bool r.sum, .int .i64 r.bound, vb, vw] 41)
  have HBX := Lib.hid (Blk.new w [.bool r.choice, vh, .bool r.sum, .int .i64 r.bound, vb, vw] 41)
  obtain ⟨a1, c1, rfl, -, hl1, -, -⟩ := hsl.head.form
  obtain ⟨a2, c2, rfl, -⟩ := hsl.body.form
  obtain ⟨a3, c3, rfl, -⟩ := hsl.wts.form
  obtain ⟨am, cm, rfl, -⟩ := hm.form
  have HR : Hid (RuleIs (w.alloc (.cells #[.bool r.choice, .slice a1 r.head.length c1, .bool r.sum, .int .i64 r.bound, .slice a2 r.body.length c2, .slice a3 r.w.length c3] 41)) (.agg #[.bool r.choice, .slice a1 r.head.length c1, .bool r.sum, .int .i64 r.bound, .slice a2 r.body.length c2, .slice a3 r.w.length c3]) r) := Lib.hid ⟨_, _, _, rfl, hsl.below hal⟩
  have HB := Lib.hid (hsl.body.below hal)
  have HW := Lib.hid (hsl.wts.below hal)
  have HM := Lib.hid (hm.below hal)
  have HML := Lib.hid hml
  have HOK := Lib.hid hV.ok
  have hlen := hV.ok.len
  have hlen' : decide ((8000 : Int) < r.body.length) = false := decide_eq_false (by omega)
  have H0 : Hid (decide ((0 : Int) ∈ r.body) = false) := Lib.hid (decide_eq_false fun h => (ordered_lit hV.ord h).1 rfl)
  have H1 : Hid (decide ((-9223372036854775808 : Int) ∈ r.body) = false) := Lib.hid (decide_eq_false fun h => by have := ordered_lit hV.ord h; have := hV.rng; omega)
  have kx := HBX.out.cell
  have hlt := HBX.out.lt
  have HAL := Lib.hid hal
  have HVW := Lib.hid hV
  clear hsl hm hml hV hal
  cases hs : r.sum with
  | false =>
    rw [hs] at HR HB HW HM HBX HAL kx hlt
    clear hs
    go_enter Try.func38, Try.ntmps38
    go_upto_region 5 with (go_at_call 60; (with_reducible refine (contains_any _ r.body _ _ HB.out).mono ?_); rintro e w1 ⟨e1, rfl⟩; (first | rw [H0.out] at e1 | rw [H1.out] at e1); subst e1)
    generalize w.alloc (.cells #[.bool r.choice, .slice a1 r.head.length c1, .bool false, .int .i64 r.bound, .slice a2 r.body.length c2, .slice a3 r.w.length c3] 41) = W at *
    have hd : Below W.heap.size W W.drew := (Below.refl _ _).drew
    have kd : ∀ o, W.drew.cell? ⟨w.heap.size, o, none⟩ = _ := kx
    go_region_with (first
      | (go_at_call 63; (with_reducible refine (member_any _ m _ (HM.out.below hd) HML.out).mono ?_); rintro e w3 ⟨mb, rfl, hin, hb3⟩; have HIN := Lib.hid hin; have HB3 := Lib.hid (hd.trans hb3); have kx3 := fun o => (bcell HB3.out _ o hlt).trans (kx o); clear hin hb3)
      | (go_at_call 62; (with_reducible refine (bodyf_any _ r m mb _ (HR.out.below HB3.out) HIN.out HOK.out).mono ?_); rintro e w4 ⟨rfl, hb4⟩; have HB4 := Lib.hid (bon HB3.out hb4); clear hb4))
    all_goals go_wp2
    all_goals go_ret
    all_goals exact ⟨rfl, HAL.out.trans (HB4.out.mono HAL.out.size)⟩
  | true =>
    rw [hs] at HR HB HW HM HBX HAL kx hlt
    have hwl : r.w.length = r.body.length := HOK.out.wlen hs
    have hwl2 : ((r.w.length : Int) != r.body.length) = false := by simp [hwl]
    have HWT : Hid (anyR r.w.length (fun j => decide (ix r.w j < 0) || decide (1048576 < ix r.w j)) = false) := Lib.hid (anyR_false fun j hj => by have := HOK.out.w hs j hj; rw [decide_eq_false (by omega), decide_eq_false (by omega)]; rfl)
    clear hs hwl
    go_enter Try.func38, Try.ntmps38
    go_upto_region 5 with (first | (go_at_call 60; (with_reducible refine (contains_any _ r.body _ _ HB.out).mono ?_); rintro e w1 ⟨e1, rfl⟩; (first | rw [H0.out] at e1 | rw [H1.out] at e1); subst e1) | (go_at_call 40; (with_reducible refine (ctn_bw _ r.w _ HW.out (fun j => decide (ix r.w j < 0) || decide (1048576 < ix r.w j)) (fun w' _ j _ => (bodyw_any _ w').mono fun e w'' ⟨e1, e2⟩ => ⟨e1, e2 ▸ Below.refl _ _⟩)).mono ?_); rintro e w2 ⟨e2, hb2⟩; rw [HWT.out] at e2; subst e2; have HB2 := Lib.hid hb2; have kx2 := fun o => (bcell hb2 _ o hlt).trans (kx o); have hlt2 := Nat.lt_of_lt_of_le hlt hb2.size; clear hb2))
    have hd : Below w2.heap.size w2 w2.drew := (Below.refl _ _).drew
    have kd : ∀ o, w2.drew.cell? ⟨w.heap.size, o, none⟩ = _ := kx2
    go_region_with (first
      | (go_at_call 63; (with_reducible refine (member_any _ m _ (HM.out.below (HB2.out.trans (hd.mono HB2.out.size))) HML.out).mono ?_); rintro e w3 ⟨mb, rfl, hin, hb3⟩; have HIN := Lib.hid hin; have HB3 := Lib.hid (hd.trans hb3); have kx3 := fun o => (bcell HB3.out _ o hlt2).trans (kx2 o); clear hin hb3)
      | (go_at_call 62; (with_reducible refine (bodyf_any _ r m mb _ (HR.out.below (bon HB2.out HB3.out)) HIN.out HOK.out).mono ?_); rintro e w4 ⟨rfl, hb4⟩; have HB4 := Lib.hid (bon HB2.out (bon HB3.out hb4)); clear hb4))
    all_goals go_wp2
    all_goals go_ret
    all_goals exact ⟨rfl, HAL.out.trans (HB4.out.mono HAL.out.size)⟩

end Go.Proofs.Ytdoecchigfdilaa
