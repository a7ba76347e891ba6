/- reduct: satisfied, Broken, Models, Body: contracts. -/
import Derived.Test.YtdoecchigfdilaaRed1Q
import Derived.Laws.EntriesVeiled
namespace Go.Proofs.Ytdoecchigfdilaa
open Go.RowKit

theorem lits_le2 {l : List Int} {n : Int} (h : orderedB l n = true) (hn : 0 ≤ n) : (l.length : Int) ≤ 2 * n := by
  have hp : (l.map litKey).Pairwise (· < ·) := by
    rw [List.pairwise_iff_getElem]
    intro i j hi hj hij
    simp only [List.length_map] at hi hj
    have := ordered_lt h j hj i hij
    simpa [ix, List.getD_eq_getElem?_getD, List.getElem?_eq_getElem hi, List.getElem?_eq_getElem hj] using this
  have := lt_length (l.map litKey) 2 (2 * n + 2) hp (fun x hx => by
    obtain ⟨y, hy, rfl⟩ := List.mem_map.1 hx
    have := ordered_lit h hy
    unfold litKey
    split <;> omega) (by omega)
  simp at this; omega

theorem ixR_exR {l : List GR} {r : GR} (h : r ∈ l) : ∃ k, k < l.length ∧ ixR l k = r := by
  obtain ⟨j, hj, rfl⟩ := List.mem_iff_getElem.1 h
  exact ⟨j, hj, by simp [ixR, List.getD_eq_getElem?_getD, List.getElem?_eq_getElem hj]⟩

/-- A valid body. -/
structure BodyV (r : GR) (n : Int) : Prop where
  rng : 0 ≤ n ∧ n ≤ 4000
  ord : orderedB r.body n = true
  sum : r.sum = true → weightsB r.w r.body.length = true
  bound : 0 ≤ r.bound

theorem bodyV_valid {p : GP} (h : validE p = 0) {k : Nat} (hk : k < p.rules.length) : BodyV (ixR p.rules k) p.n :=
  let hv := validP h; ⟨hv.n, hv.body k hk, hv.sum k hk, hv.bound k hk⟩

theorem BodyV.ok {r : GR} {n : Int} (h : BodyV r n) : BodyOk r where
  len := by have := lits_le2 h.ord h.rng.1; have := h.rng; omega
  lit := fun j hj => by have := ordered_lit h.ord (ix_mem hj); have := h.rng; omega
  wlen := fun hs => by have := (weights_sum (h.sum hs)).1; omega
  w := fun hs j hj => by
    have h1 := weights_sum (h.sum hs)
    have h2 := h1.2.1 j hj
    have h3 := h1.2.2 (j + 1) (by omega)
    have h4 := h1.2.2 j (by omega)
    unfold sumTo at h3
    omega

theorem bodyOk_valid {p : GP} (h : validE p = 0) {k : Nat} (hk : k < p.rules.length) : BodyOk (ixR p.rules k) := (bodyV_valid h hk).ok

set_option maxHeartbeats 2000000 in
theorem sat_any (v : Value) (r : GR) (m : List Int) (mb : Nat) (w : World) (hr : RuleIs w v r) (h : InM w mb m) (hok : BodyOk r) :
    Calls Try.prog 95 #[v, .func (.func 93) #[] #[.pointer (some ⟨mb, 0, none⟩)]] w fun e w' => e = .returned (.bool (satT r m)) ∧ Below w.heap.size w w' := by
  obtain ⟨vh, vb, vw, rfl, hsl⟩ := hr
  have hal := bal (Below.refl w.heap.size w) (.cells #[.bool r.choice, vh, .bool r.sum, .int .i64 r.bound, vb, vw] 41)
  have HBX := Lib.hid (Blk.new w [.bool r.choice, vh, .bool r.sum, .int .i64 r.bound, vb, vw] 41)
  obtain ⟨a1, c1, rfl, -, hl1, -, -⟩ := hsl.head.form
  obtain ⟨a2, c2, rfl, -⟩ := hsl.body.form
  obtain ⟨a3, c3, rfl, -⟩ := hsl.wts.form
  have HR : Hid (RuleIs (w.alloc (.cells #[.bool r.choice, .slice a1 r.head.length c1, .bool r.sum, .int .i64 r.bound, .slice a2 r.body.length c2, .slice a3 r.w.length c3] 41)) (.agg #[.bool r.choice, .slice a1 r.head.length c1, .bool r.sum, .int .i64 r.bound, .slice a2 r.body.length c2, .slice a3 r.w.length c3]) r) := Lib.hid ⟨_, _, _, rfl, hsl.below hal⟩
  have HH := Lib.hid (hsl.head.below hal)
  have HIN := Lib.hid (h.below hal)
  have HOK := Lib.hid hok
  have HAL := Lib.hid hal
  clear hsl h hok hal
  cases hc : r.choice with
  | true =>
    have HF : Hid (satT r m = true) := Lib.hid (by unfold satT; rw [hc]; rfl)
    rw [hc] at HR HBX HH HIN HAL
    clear hc
    go_enter Try.func95, Try.ntmps95
    go_wp2
    go_ret
    exact ⟨ret_bool HF.out.symm, HAL.out⟩
  | false =>
    have kx := HBX.out.cell
    have hlt := HBX.out.lt
    rw [hc] at HR HBX HH HIN HAL kx hlt
    cases hb : bodyT r m with
    | false =>
      have HF : Hid (satT r m = true) := Lib.hid (by unfold satT; rw [hc, hb]; rfl)
      have HBT := Lib.hid hb
      clear hc hb
      go_enter Try.func95, Try.ntmps95
      go_wp2_with (go_at_call 62; (with_reducible refine (bodyf_any _ r m mb _ HR.out HIN.out HOK.out).mono ?_); rintro e w1 ⟨e1, hb1⟩; rw [HBT.out] at e1; subst e1)
      go_ret
      exact ⟨ret_bool HF.out.symm, bon HAL.out hb1⟩
    | true =>
      have HF : Hid (satT r m = anyR r.head.length (fun j => decide (ix r.head j ∈ m))) := Lib.hid (by unfold satT; rw [hc, hb]; rfl)
      have HBT := Lib.hid hb
      clear hc hb
      go_enter Try.func95, Try.ntmps95
      go_wp2_with (first
        | (go_at_call 62; (with_reducible refine (bodyf_any _ r m mb _ HR.out HIN.out HOK.out).mono ?_); rintro e w1 ⟨e1, hb1⟩; rw [HBT.out] at e1; subst e1; have kx1 := fun o => (bcell hb1 _ o hlt).trans (kx o))
        | (go_at_call 40; (with_reducible refine (ctn_hd _ r.head _ (HH.out.below hb1) (fun j => decide (ix r.head j ∈ m)) _ (fun w' hb j hj => (memb1_any _ m mb w' ((HIN.out.below hb1).below hb)).mono fun e w'' ⟨e1, e2⟩ => ⟨e1, e2 ▸ Below.refl _ _⟩)).mono ?_); rintro e w2 ⟨rfl, hb2⟩))
      go_ret
      exact ⟨ret_bool HF.out.symm, bon (bon HAL.out hb1) hb2⟩

theorem brokc_any (v : Value) (r : GR) (m : List Int) (mb cb : Nat) (w : World) (hr : RuleIs w v r) (h : InM w mb m) (hb : Blk w cb [.func (.func 93) #[] #[.pointer (some ⟨mb, 0, none⟩)]] 66) (hok : BodyOk r) :
    Calls Try.prog 94 #[v, .pointer (some ⟨cb, 0, none⟩)] w fun e w' => e = .returned (.bool (!satT r m)) ∧ Below w.heap.size w w' := by
  obtain ⟨vh, vb, vw, rfl, hsl⟩ := hr
  have hal := bal (Below.refl w.heap.size w) (.cells #[.bool r.choice, vh, .bool r.sum, .int .i64 r.bound, vb, vw] 41)
  obtain ⟨a1, c1, rfl, -, hl1, -, -⟩ := hsl.head.form
  obtain ⟨a2, c2, rfl, -⟩ := hsl.body.form
  obtain ⟨a3, c3, rfl, -⟩ := hsl.wts.form
  have HR : Hid (RuleIs (w.alloc (.cells #[.bool r.choice, .slice a1 r.head.length c1, .bool r.sum, .int .i64 r.bound, .slice a2 r.body.length c2, .slice a3 r.w.length c3] 41)) (.agg #[.bool r.choice, .slice a1 r.head.length c1, .bool r.sum, .int .i64 r.bound, .slice a2 r.body.length c2, .slice a3 r.w.length c3]) r) := Lib.hid ⟨_, _, _, rfl, hsl.below hal⟩
  have HIN := Lib.hid (h.below hal)
  have HOK := Lib.hid hok
  have kb := hb.cell 0
  have hlt := hb.lt
  have HAL := Lib.hid hal
  clear hsl h hok hb hal
  go_enter Try.func94, Try.ntmps94
  go_wp2_with (go_at_call 95; (with_reducible refine (sat_any _ r m mb _ HR.out HIN.out HOK.out).mono ?_); rintro e w1 ⟨rfl, hb1⟩)
  go_ret
  exact ⟨rfl, bon HAL.out hb1⟩

set_option maxHeartbeats 1000000 in
theorem idxR_brk (v : Value) (l : List GR) (w : World) (h : RulesIs w v l) (g : Nat → Bool) (cap : Value)
    (hg : ∀ w', Below w.heap.size w w' → ∀ j, j < l.length → ∀ u, RuleIs w' u (ixR l j) → Calls Try.prog 94 #[u, cap] w' fun e w'' => e = .returned (.bool (g j)) ∧ Below w'.heap.size w' w'') :
    Calls Try.prog 84 #[v, .func (.func 94) #[] #[cap]] w fun e w' => ∃ r, e = .returned (.int .i64 r) ∧ IxP l.length g r ∧ Below w.heap.size w w' := by
  obtain ⟨a1, c1, rfl, -, hl1, -, hcell⟩ := h.form
  have HG := Lib.hid hg
  clear h hg
  go_enter Try.func84, Try.ntmps84
  go_wp2
  go_loopw [8] (fun i wx => IxR l.length g w i wx) (fun i _ => l.length - (intOf i).toNat)
  case atStart => exact ⟨0, by omega, rfl, fun j hj => absurd hj (Nat.not_lt_zero _), Below.refl _ _⟩
  case round =>
    obtain ⟨k, hk, rfl, hall, hb⟩ := hrel
    have HA := Lib.hid hall
    clear hall
    by_cases hlt : k < l.length
    · obtain ⟨b, off, rfl, hbl, hc⟩ := hcell (by omega)
      obtain ⟨vh, vb, vw, ⟨k0, k1, k2, k3, k4, k5⟩, hsl⟩ := hc k hlt
      have hbr := hsl.below hb
      have hk0 := (bcell hb _ _ hbl).trans k0
      have hk1 := (bcell hb _ _ hbl).trans k1
      have hk2 := (bcell hb _ _ hbl).trans k2
      have hk3 := (bcell hb _ _ hbl).trans k3
      have hk4 := (bcell hb _ _ hbl).trans k4
      have hk5 := (bcell hb _ _ hbl).trans k5
      have HRU : Hid (RuleIs wr (.agg #[.bool (ixR l k).choice, vh, .bool (ixR l k).sum, .int .i64 (ixR l k).bound, vb, vw]) (ixR l k)) := Lib.hid ⟨vh, vb, vw, rfl, hbr⟩
      clear hc hcell k0 k1 k2 k3 k4 k5 hsl hbr
      cases g1 : g k with
      | true =>
        have HK : Hid (_ = true) := Lib.hid g1
        have HC := Lib.hid (HG.out _ hb k hlt _ HRU.out)
        rw [g1] at HC
        clear g1
        go_wp2_with (go_at_call 94; refine (HC.out).mono ?_; rintro e w1 ⟨rfl, hb1⟩)
        go_ret
        exact ⟨_, rfl, .inr ⟨k, hlt, rfl, HK.out, HA.out⟩, bon hb hb1⟩
      | false =>
        have HN := Lib.hid (lt_succ_all HA.out g1)
        have HC := Lib.hid (HG.out _ hb k hlt _ HRU.out)
        rw [g1] at HC
        clear g1
        go_wp2_with (go_at_call 94; refine (HC.out).mono ?_; rintro e w1 ⟨rfl, hb1⟩)
        first
          | (go_roundw
             case rel => (exact ⟨k + 1, by omega, by go_num, HN.out, bon hb hb1⟩)
             case measure => (simp [intOf]; omega))
          | (refine ⟨?_, ?_⟩
             · (exact ⟨k + 1, by omega, by go_num, HN.out, bon hb hb1⟩)
             · (simp [intOf]; omega))
    · have HN : Hid (∀ j, j < l.length → g j = false) := Lib.hid (fun j hj => HA.out j (by omega))
      go_wp2
      go_ret
      exact ⟨_, rfl, .inl ⟨rfl, HN.out⟩, hb⟩

set_option maxHeartbeats 1000000 in
theorem ctnR_brk (v : Value) (l : List GR) (w : World) (h : RulesIs w v l) (g : Nat → Bool) (cap : Value)
    (hg : ∀ w', Below w.heap.size w w' → ∀ j, j < l.length → ∀ u, RuleIs w' u (ixR l j) → Calls Try.prog 94 #[u, cap] w' fun e w'' => e = .returned (.bool (g j)) ∧ Below w'.heap.size w' w'') :
    Calls Try.prog 54 #[v, .func (.func 94) #[] #[cap]] w fun e w' => e = .returned (.bool (anyR l.length g)) ∧ Below w.heap.size w w' := by
  have HI := Lib.hid (idxR_brk v l w h g cap hg)
  obtain ⟨a1, c1, rfl, -⟩ := h.form
  clear h hg
  go_enter Try.func54, Try.ntmps54
  go_wp2_with (go_at_call 84; refine (HI.out).mono ?_; rintro e w1 ⟨r, rfl, hr, hb1⟩; have HR := Lib.hid hr; clear hr)
  go_ret
  exact ⟨ret_bool HR.out.any, hb1⟩

/-- The error of a program and a set. -/
def checkE (p : GP) (m : List Int) : Int := if validE p ≠ 0 then validE p else if setQ p.n m then 0 else 2

set_option maxHeartbeats 1000000 in
theorem rcheck_any (v vm : Value) (p : GP) (m : List Int) (w : World) (h : ProgIs w v p) (hm : Ints w vm m) :
    Calls Try.prog 85 #[v, vm] w fun e w' => e = .returned (.int .i64 (checkE p m)) ∧ Below w.heap.size w w' := by
  have h0 := h
  obtain ⟨vn, vs, vr, vmn, rfl, -⟩ := h
  have hal := bal (Below.refl w.heap.size w) (.cells #[.int .i64 p.n, vn, vs, vr, vmn] 27)
  have HBX := Lib.hid (Blk.new w [.int .i64 p.n, vn, vs, vr, vmn] 27)
  have kx := HBX.out.cell
  have hlt := HBX.out.lt
  have HP := Lib.hid (h0.below hal)
  have HM := Lib.hid (hm.below hal)
  have HAL := Lib.hid hal
  obtain ⟨am, cm, rfl, -⟩ := hm.form
  clear h0 hm hal
  by_cases hv : validE p = 0
  · have h1 : (validE p != 0) = false := by simp [hv]
    have h2 : (validE p == 0) = true := by simp [hv]
    cases hs : setQ p.n m with
    | true =>
      have HF : Hid (checkE p m = 0) := Lib.hid (by unfold checkE; rw [if_neg (by simp [hv]), hs]; rfl)
      clear hv
      go_enter Try.func85, Try.ntmps85
      go_wp2_with (first | (go_at_call 6; (with_reducible refine (valid_any _ p _ HP.out).mono ?_); rintro e w1 ⟨e1, hb1⟩; subst e1; have kx1 := fun o => (bcell hb1 _ o hlt).trans (kx o)) | (go_at_call 35; (with_reducible refine (redSet_any _ p.n m _ (HM.out.below hb1)).mono ?_); rintro e w2 ⟨rfl, rfl⟩))
      go_ret
      exact ⟨ret_int HF.out.symm, bon HAL.out hb1⟩
    | false =>
      have HF : Hid (checkE p m = 2) := Lib.hid (by unfold checkE; rw [if_neg (by simp [hv]), hs]; rfl)
      clear hv
      go_enter Try.func85, Try.ntmps85
      go_wp2_with (first | (go_at_call 6; (with_reducible refine (valid_any _ p _ HP.out).mono ?_); rintro e w1 ⟨e1, hb1⟩; subst e1; have kx1 := fun o => (bcell hb1 _ o hlt).trans (kx o)) | (go_at_call 35; (with_reducible refine (redSet_any _ p.n m _ (HM.out.below hb1)).mono ?_); rintro e w2 ⟨rfl, rfl⟩))
      go_ret
      exact ⟨ret_int HF.out.symm, bon HAL.out hb1⟩
  · have h1 : (validE p != 0) = true := by simp [hv]
    have h2 : (validE p == 0) = false := by simp [hv]
    have HF : Hid (checkE p m = validE p) := Lib.hid (by unfold checkE; rw [if_pos hv])
    clear hv
    go_enter Try.func85, Try.ntmps85
    go_wp2_with (first | (go_at_call 6; (with_reducible refine (valid_any _ p _ HP.out).mono ?_); rintro e w1 ⟨e1, hb1⟩; subst e1; have kx1 := fun o => (bcell hb1 _ o hlt).trans (kx o)) | (go_at_call 35; (with_reducible refine (redSet_any _ p.n m _ (HM.out.below hb1)).mono ?_); rintro e w2 ⟨rfl, rfl⟩))
    go_ret
    exact ⟨ret_int HF.out.symm, bon HAL.out hb1⟩

/-- What Broken returns: the first rule that is not satisfied, or -1; the error. -/
def BrokPost (p : GP) (m : List Int) (w : World) (e : Ending) (w' : World) : Prop :=
  ∃ r : Int, e = .returned (.tuple #[.int .i64 r, .int .i64 (checkE p m)]) ∧ (checkE p m ≠ 0 → r = 0) ∧ (checkE p m = 0 → IxP p.rules.length (fun i => !satT (ixR p.rules i) m) r) ∧ Below w.heap.size w w'

theorem checkE_ok {p : GP} {m : List Int} (h : checkE p m = 0) : validE p = 0 ∧ setQ p.n m = true := by
  unfold checkE at h
  split at h
  · rename_i h1; exact absurd h h1
  · rename_i h1
    split at h
    · rename_i h2; exact ⟨Decidable.not_not.1 h1, h2⟩
    · cases h

theorem inc_le {l : List Int} {n : Int} (h : setQ n l = true) (hn : 0 ≤ n) : (l.length : Int) ≤ n := by
  have hp : l.Pairwise (· < ·) := by
    rw [List.pairwise_iff_getElem]
    intro i j hi hj hij
    have key : ∀ d : Nat, ∀ i : Nat, i + d + 1 < l.length → ix l i < ix l (i + d + 1) := by
      intro d
      induction d with
      | zero =>
        intro i hi
        have := allR_get h (i + 1) (by omega)
        unfold setTo at this
        simp only [Bool.and_eq_true, Bool.or_eq_true, decide_eq_true_eq, beq_iff_eq, Nat.add_sub_cancel] at this
        exact this.2.resolve_left (by omega)
      | succ d ih =>
        intro i hi
        have h1 := ih i (by omega)
        have := allR_get h (i + d + 1 + 1) (by omega)
        unfold setTo at this
        simp only [Bool.and_eq_true, Bool.or_eq_true, decide_eq_true_eq, beq_iff_eq, Nat.add_sub_cancel] at this
        have h2 := this.2.resolve_left (by omega)
        exact Int.lt_trans h1 h2
    have := key (j - i - 1) i (by omega)
    rw [show i + (j - i - 1) + 1 = j by omega] at this
    simpa [ix, List.getD_eq_getElem?_getD, List.getElem?_eq_getElem hi, List.getElem?_eq_getElem hj] using this
  have := lt_length l 1 (n + 1) hp (fun x hx => by
    obtain ⟨j, hj, rfl⟩ := List.mem_iff_getElem.1 hx
    have := allR_get h j hj
    unfold setTo at this
    simp only [Bool.and_eq_true, decide_eq_true_eq] at this
    have e : ix l j = l[j] := by simp [ix, List.getD_eq_getElem?_getD, List.getElem?_eq_getElem hj]
    rw [e] at this
    omega) (by omega)
  omega

set_option maxHeartbeats 1000000 in
theorem broken_any (v vm : Value) (p : GP) (m : List Int) (w : World) (h : ProgIs w v p) (hm : Ints w vm m) :
    Calls Try.prog 64 #[v, vm] w (BrokPost p m w) := by
  have h0 := h
  obtain ⟨vn, vs, vr, vmn, rfl, hps⟩ := h
  have hal := bal (Below.refl w.heap.size w) (.cells #[.int .i64 p.n, vn, vs, vr, vmn] 27)
  have HBX := Lib.hid (Blk.new w [.int .i64 p.n, vn, vs, vr, vmn] 27)
  have kx := HBX.out.cell
  have hlt := HBX.out.lt
  have HP := Lib.hid (h0.below hal)
  have HM := Lib.hid (hm.below hal)
  have HRU := Lib.hid (hps.rules.below hal)
  obtain ⟨a1, c1, rfl, -⟩ := hps.rules.form
  have HAL := Lib.hid hal
  obtain ⟨am, cm, rfl, -⟩ := hm.form
  clear h0 hm hal hps
  by_cases hv : checkE p m = 0
  · have h1 : (checkE p m != 0) = false := by simp [hv]
    have HC := Lib.hid hv
    have HML : Hid (m.length ≤ 1000000000) := Lib.hid (by have h2 := checkE_ok hv; have h3 := inc_le h2.2 (validP h2.1).n.1; have := (validP h2.1).n; omega)
    have HOK : Hid (∀ k, k < p.rules.length → BodyOk (ixR p.rules k)) := Lib.hid (fun k hk => bodyOk_valid (checkE_ok hv).1 hk)
    clear hv
    go_enter Try.func64, Try.ntmps64
    go_wp2_with (first
      | (go_at_call 85; (with_reducible refine (rcheck_any _ _ p m _ HP.out HM.out).mono ?_); rintro e w1 ⟨rfl, hb1⟩; have kx1 := fun o => (bcell hb1 _ o hlt).trans (kx o); have hz1 := hb1.size)
      | (go_at_call 63; (with_reducible refine (member_any _ m _ (HM.out.below hb1) HML.out).mono ?_); rintro e w2 ⟨mb, rfl, hin, hb2⟩; have HIN := Lib.hid hin; have kx2 := fun o => (bcell hb2 _ o (Nat.lt_of_lt_of_le hlt hz1)).trans (kx1 o); have hlt2 := Nat.lt_of_lt_of_le hlt (Nat.le_trans hz1 hb2.size); clear hin)
      | (go_at_call 84; (with_reducible refine (idxR_brk _ p.rules _ (HRU.out.below (bon hb1 (bal hb2 _))) (fun i => !satT (ixR p.rules i) m) _ (fun w' hb j hj u hu => brokc_any u _ m mb _ w' hu ((HIN.out.below (bal (Below.refl _ _) _)).below hb) ((Blk.new w2 _ _).below hb) (HOK.out j hj))).mono ?_); rintro e w3 ⟨r, rfl, hr, hb3⟩; have HRR := Lib.hid hr; clear hr))
    go_ret2
    exact ⟨r, by rw [HC.out]; rfl, fun hne => absurd HC.out hne, fun _ => HRR.out, bon (bon HAL.out (bon hb1 (bal hb2 _))) hb3⟩
  · have h1 : (checkE p m != 0) = true := by simp [hv]
    have HC := Lib.hid hv
    clear hv
    go_enter Try.func64, Try.ntmps64
    go_wp2_with (first
      | (go_at_call 85; (with_reducible refine (rcheck_any _ _ p m _ HP.out HM.out).mono ?_); rintro e w1 ⟨rfl, hb1⟩; have kx1 := fun o => (bcell hb1 _ o hlt).trans (kx o)))
    go_ret2
    exact ⟨0, rfl, fun _ => rfl, fun h => absurd h HC.out, bon HAL.out hb1⟩

/-- m is a model of the rules. -/
def modelsB (p : GP) (m : List Int) : Bool := allR p.rules.length (fun i => satT (ixR p.rules i) m)

set_option maxHeartbeats 1000000 in
theorem models_any (v vm : Value) (p : GP) (m : List Int) (w : World) (h : ProgIs w v p) (hm : Ints w vm m) :
    Calls Try.prog 39 #[v, vm] w fun e w' => e = .returned (.tuple #[.bool (decide (checkE p m = 0) && modelsB p m), .int .i64 (checkE p m)]) ∧ Below w.heap.size w w' := by
  have h0 := h
  obtain ⟨vn, vs, vr, vmn, rfl, hps⟩ := h
  have hal := bal (Below.refl w.heap.size w) (.cells #[.int .i64 p.n, vn, vs, vr, vmn] 27)
  have HP := Lib.hid (h0.below hal)
  have HM := Lib.hid (hm.below hal)
  have HAL := Lib.hid hal
  obtain ⟨am, cm, rfl, -⟩ := hm.form
  clear h0 hm hal hps
  by_cases hv : checkE p m = 0
  · have h1 : (checkE p m == 0) = true := by simp [hv]
    have HC := Lib.hid hv
    clear hv
    have HB : Hid (∀ r, IxP p.rules.length (fun i => !satT (ixR p.rules i) m) r → decide (r < 0) = modelsB p m) := Lib.hid (fun r hr => by
      have := hr.any
      unfold modelsB
      rw [← allR_not, ← this]
      by_cases h0 : 0 ≤ r
      · rw [decide_eq_false (by omega), decide_eq_true h0]; rfl
      · rw [decide_eq_true (by omega), decide_eq_false h0]; rfl)
    go_enter Try.func39, Try.ntmps39
    go_wp2_with (go_at_call 64; (with_reducible refine (broken_any _ _ p m _ HP.out HM.out).mono ?_); rintro e w1 ⟨r, rfl, hr1, hr2, hb1⟩; have HRR := Lib.hid (hr2 HC.out); clear hr1 hr2)
    go_ret2
    refine ⟨?_, bon HAL.out hb1⟩
    have e := HB.out r HRR.out
    first
      | (show Ending.returned (.tuple #[.bool (modelsB p m), .int .i64 (checkE p m)]) = _; rw [decide_eq_true HC.out, Bool.true_and])
      | (show Ending.returned (.tuple #[.bool (decide (r < 0)), .int .i64 (checkE p m)]) = _; rw [decide_eq_true HC.out, Bool.true_and, e])
  · have h1 : (checkE p m == 0) = false := by simp [hv]
    have HC := Lib.hid hv
    clear hv
    go_enter Try.func39, Try.ntmps39
    go_wp2_with (go_at_call 64; (with_reducible refine (broken_any _ _ p m _ HP.out HM.out).mono ?_); rintro e w1 ⟨r, rfl, hr1, hr2, hb1⟩; have HRR := Lib.hid (hr1 HC.out); clear hr1 hr2)
    go_ret2
    refine ⟨?_, bon HAL.out hb1⟩
    show Ending.returned (.tuple #[.bool false, .int .i64 (checkE p m)]) = _
    rw [decide_eq_false HC.out]; rfl

end Go.Proofs.Ytdoecchigfdilaa
