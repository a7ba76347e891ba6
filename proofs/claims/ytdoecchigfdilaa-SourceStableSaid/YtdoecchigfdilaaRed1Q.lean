/- reduct: Set, body, Body, satisfied: contracts. -/
import Derived.Test.YtdoecchigfdilaaMemQ
import Derived.Test.YtdoecchigfdilaaMD
namespace Go.Proofs.Ytdoecchigfdilaa
open Go.RowKit

/-- A set of atoms, the empty one too. -/
def setQ (n : Int) (S : List Int) : Bool := allR S.length (setTo n S)

set_option maxHeartbeats 2000000 in
theorem redSet_any (vs : Value) (n : Int) (S : List Int) (w : World) (hs : Ints w vs S) :
    Calls Try.prog 35 #[vs, .int .i64 n] w fun e w' => e = .returned (.bool (setQ n S)) ∧ w = w' := by
  obtain ⟨a1, c1, rfl, -, hl1, -, hcell⟩ := hs.form
  clear hs
  go_enter Try.func35, Try.ntmps35
  go_wp2
  go_loop [9] (fun i => ∃ k : Nat, k ≤ S.length ∧ i = .int .i64 k ∧ Hid (∀ j, j < k → setTo n S j = true)) (fun i => S.length - (intOf i).toNat)
  case atStart => exact ⟨0, by omega, rfl, Lib.hid (fun j hj => absurd hj (Nat.not_lt_zero _))⟩
  case round =>
    obtain ⟨k, hk, rfl, HA⟩ := hrel
    have HF : Hid (∀ k, k < S.length → setTo n S k = false → setQ n S = false) := Lib.hid (fun k hk h => by unfold setQ; rw [allR_false k hk h])
    by_cases hlt : k < S.length
    · obtain ⟨b, off, rfl, hbl, hc⟩ := hcell (by omega)
      have hk1 := hc k hlt
      by_cases h1 : ix S k < 1
      · have HN : Hid (setTo n S k = false) := Lib.hid (by unfold setTo; rw [decide_eq_false (by omega)]; rfl)
        clear hc hcell
        go_wp2
        go_ret
        exact ⟨ret_bool (HF.out k hlt HN.out).symm, rfl⟩
      · by_cases h2 : n < ix S k
        · have HN : Hid (setTo n S k = false) := Lib.hid (by unfold setTo; rw [decide_eq_false (by omega)]; rfl)
          clear hc hcell
          go_wp2
          go_ret
          exact ⟨ret_bool (HF.out k hlt HN.out).symm, rfl⟩
        · cases k with
          | zero =>
            have hk0 : w.cell? ⟨b, off, none⟩ = some (.int .i64 (ix S 0)) := hc 0 hlt
            clear hk1
            have HN := Lib.hid (lt_succ_all HA.out (show setTo n S 0 = true by unfold setTo; rw [decide_eq_true (by omega)]; rfl))
            clear hc hcell
            go_wp2
            first
              | (go_round
                 case rel => (exact ⟨0 + 1, by omega, by go_num, HN⟩)
                 case measure => (simp [intOf]; omega))
              | (refine ⟨?_, ?_⟩
                 · (exact ⟨0 + 1, by omega, by go_num, HN⟩)
                 · (simp [intOf]; omega))
          | succ k =>
            have hk0 := hc k (by omega)
            have e1 : (((k + 1 : Nat) : Int) - 1).toNat = k := by omega
            by_cases h3 : ix S k < ix S (k + 1)
            · have HN := Lib.hid (lt_succ_all HA.out (show setTo n S (k + 1) = true by unfold setTo; rw [decide_eq_true (by omega), Nat.add_sub_cancel, decide_eq_true h3]; simp))
              clear hc hcell
              go_wp2
              first
                | (go_round
                   case rel => (exact ⟨k + 1 + 1, by omega, by go_num, HN⟩)
                   case measure => (simp [intOf]; omega))
                | (refine ⟨?_, ?_⟩
                   · (exact ⟨k + 1 + 1, by omega, by go_num, HN⟩)
                   · (simp [intOf]; omega))
            · have HN : Hid (setTo n S (k + 1) = false) := Lib.hid (by unfold setTo; rw [Nat.add_sub_cancel, decide_eq_false h3]; simp)
              clear hc hcell
              go_wp2
              go_ret
              exact ⟨ret_bool (HF.out (k + 1) hlt HN.out).symm, rfl⟩
    · have HN : Hid (setQ n S = true) := Lib.hid (by unfold setQ; rw [allR_true (fun j hj => HA.out j (by omega))])
      go_wp2
      go_ret
      exact ⟨ret_bool HN.out.symm, rfl⟩

/-! ### body -/
/-- The weights of the literals that are true in m, among the first k. -/
def wsum (m : List Int) (r : GR) : Nat → Int
  | 0 => 0
  | k + 1 => wsum m r k + if litT m (ix r.body k) then ix r.w k else 0

/-- The body is true in m. -/
def bodyT (r : GR) (m : List Int) : Bool := if r.sum then decide (r.bound ≤ wsum m r r.body.length) else allR r.body.length (fun j => litT m (ix r.body j))

/-- A rule whose body can be evaluated. -/
structure BodyOk (r : GR) : Prop where
  len : r.body.length ≤ 8000
  lit : ∀ j, j < r.body.length → -9223372036854775808 < ix r.body j
  wlen : r.sum = true → r.w.length = r.body.length
  w : r.sum = true → ∀ j, j < r.w.length → 0 ≤ ix r.w j ∧ ix r.w j ≤ 1048576

theorem wsum_bound {m : List Int} {r : GR} (h : BodyOk r) (hs : r.sum = true) : ∀ (k : Nat), k ≤ r.body.length → 0 ≤ wsum m r k ∧ wsum m r k ≤ 1048576 * k
  | 0, _ => by simp [wsum]
  | k + 1, hk => by
    have ih := wsum_bound (m := m) h hs k (by omega)
    have hw := h.w hs k (by have := h.wlen hs; omega)
    unfold wsum
    push_cast
    split <;> omega

theorem bodyc_any (x : Int) (m : List Int) (mb cb : Nat) (w : World) (h : InM w mb m) (hb : Blk w cb [.func (.func 93) #[] #[.pointer (some ⟨mb, 0, none⟩)]] 66) (hx : -9223372036854775808 < x ∧ x ≤ 9223372036854775807) :
    Calls Try.prog 91 #[.int .i64 x, .pointer (some ⟨cb, 0, none⟩)] w fun e w' => e = .returned (.bool (!litT m x)) ∧ w = w' := by
  have H := Lib.hid h
  have kb := hb.cell 0
  clear h hb
  go_enter Try.func91, Try.ntmps91
  go_wp2_with (go_at_call 92; (with_reducible refine (holdsL_any _ m _ _ H.out (by omega)).mono ?_); rintro e w1 ⟨rfl, rfl⟩)
  go_ret
  exact ⟨rfl, rfl⟩

set_option maxHeartbeats 1000000 in
theorem idx_bd (v : Value) (l : List Int) (w : World) (h : Ints w v l) (g : Nat → Bool) (cap : Value)
    (hg : ∀ w', Below w.heap.size w w' → ∀ j, j < l.length → Calls Try.prog 91 #[.int .i64 (ix l j), cap] w' fun e w'' => e = .returned (.bool (g j)) ∧ Below w'.heap.size w' w'') :
    Calls Try.prog 50 #[v, .func (.func 91) #[] #[cap]] w fun e w' => ∃ r, e = .returned (.int .i64 r) ∧ IxP l.length g r ∧ Below w.heap.size w w' := by
  obtain ⟨a1, c1, rfl, -, hl1, -, hcell⟩ := h.form
  have HG := Lib.hid hg
  clear h hg
  go_enter Try.func50, Try.ntmps50
  go_wp2
  go_loopw [8] (fun i wx => IxR l.length g w i wx) (fun i _ => l.length - (intOf i).toNat)
  case atStart => exact ⟨0, by omega, rfl, fun j hj => absurd hj (Nat.not_lt_zero _), Below.refl _ _⟩
  case round =>
    obtain ⟨k, hk, rfl, hall, hb⟩ := hrel
    have HA := Lib.hid hall
    clear hall
    by_cases hlt : k < l.length
    · obtain ⟨b, off, rfl, hbl, hc⟩ := hcell (by omega)
      have hk1 := (bcell hb _ _ hbl).trans (hc k hlt)
      clear hc hcell
      cases g1 : g k with
      | true =>
        have HK : Hid (_ = true) := Lib.hid g1
        have HC := Lib.hid (HG.out _ hb k hlt)
        rw [g1] at HC
        clear g1
        go_wp2_with (go_at_call 91; refine (HC.out).mono ?_; rintro e w1 ⟨rfl, hb1⟩)
        go_ret
        exact ⟨_, rfl, .inr ⟨k, hlt, rfl, HK.out, HA.out⟩, bon hb hb1⟩
      | false =>
        have HN := Lib.hid (lt_succ_all HA.out g1)
        have HC := Lib.hid (HG.out _ hb k hlt)
        rw [g1] at HC
        clear g1
        go_wp2_with (go_at_call 91; refine (HC.out).mono ?_; rintro e w1 ⟨rfl, hb1⟩)
        first
          | (go_roundw
             case rel => (exact ⟨k + 1, by omega, by go_num, HN.out, bon hb hb1⟩)
             case measure => (simp [intOf]; omega))
          | (refine ⟨?_, ?_⟩
             · (exact ⟨k + 1, by omega, by go_num, HN.out, bon hb hb1⟩)
             · (simp [intOf]; omega))
    · have HN : Hid (∀ j, j < l.length → g j = false) := Lib.hid (fun j hj => HA.out j (by omega))
      go_wp2
      go_ret
      exact ⟨_, rfl, .inl ⟨rfl, HN.out⟩, hb⟩

set_option maxHeartbeats 1000000 in
theorem ctn_bd (v : Value) (l : List Int) (w : World) (h : Ints w v l) (g : Nat → Bool) (cap : Value)
    (hg : ∀ w', Below w.heap.size w w' → ∀ j, j < l.length → Calls Try.prog 91 #[.int .i64 (ix l j), cap] w' fun e w'' => e = .returned (.bool (g j)) ∧ Below w'.heap.size w' w'') :
    Calls Try.prog 40 #[v, .func (.func 91) #[] #[cap]] w fun e w' => e = .returned (.bool (anyR l.length g)) ∧ Below w.heap.size w w' := by
  have HI := Lib.hid (idx_bd v l w h g cap hg)
  obtain ⟨a1, c1, rfl, -⟩ := h.form
  clear h hg
  go_enter Try.func40, Try.ntmps40
  go_wp2_with (go_at_call 50; refine (HI.out).mono ?_; rintro e w1 ⟨r, rfl, hr, hb1⟩; have HR := Lib.hid hr; clear hr)
  go_ret
  exact ⟨ret_bool HR.out.any, hb1⟩

def BdRel (m : List Int) (r : GR) (s i : Value) : Prop := ∃ k : Nat, k ≤ r.body.length ∧ i = .int .i64 k ∧ s = .int .i64 (wsum m r k)

theorem allR_not {n : Nat} {f : Nat → Bool} : (!anyR n fun j => !f j) = allR n f := by
  unfold anyR allR
  induction List.range n with
  | nil => rfl
  | cons x l ih => simp only [List.any_cons, List.all_cons, Bool.not_or, ih, Bool.not_not]

set_option maxHeartbeats 2000000 in
theorem bodyf_any (v : Value) (r : GR) (m : List Int) (mb : Nat) (w : World) (hr : RuleIs w v r) (h : InM w mb m) (hok : BodyOk r) :
    Calls Try.prog 62 #[v, .func (.func 93) #[] #[.pointer (some ⟨mb, 0, none⟩)]] w fun e w' => e = .returned (.bool (bodyT r m)) ∧ Below w.heap.size w w' := by
  obtain ⟨vh, vb, vw, rfl, hsl⟩ := hr
  have hal := bal (bal (Below.refl w.heap.size w) (.cells #[.bool r.choice, vh, .bool r.sum, .int .i64 r.bound, vb, vw] 41)) (.cells #[.func (.func 93) #[] #[.pointer (some ⟨mb, 0, none⟩)]] 66)
  have HBX : Hid (Blk ((w.alloc (.cells #[.bool r.choice, vh, .bool r.sum, .int .i64 r.bound, vb, vw] 41)).alloc (.cells #[.func (.func 93) #[] #[.pointer (some ⟨mb, 0, none⟩)]] 66)) (w.heap.size + 1) [.func (.func 93) #[] #[.pointer (some ⟨mb, 0, none⟩)]] 66) := Lib.hid (by repeat first | (refine Blk.newAt _ _ _ ?_; first | rfl | (simp only [World.size_alloc]; done) | (simp only [World.size_alloc]; omega)) | refine Blk.alloc ?_ _)
  obtain ⟨a2, c2, rfl, -, hl2, -, hcb⟩ := hsl.body.form
  obtain ⟨a3, c3, rfl, -, hl3, -, hcw⟩ := hsl.wts.form
  have HB := Lib.hid (hsl.body.below hal)
  have HIN := Lib.hid (h.below hal)
  have hfit := hsl.body.2
  have hbd := hsl.bound
  unfold InI at hbd
  cases hs : r.sum with
  | false =>
    rw [hs] at hal HBX HB HIN
    have HF : Hid (bodyT r m = !anyR r.body.length (fun j => !litT m (ix r.body j))) := Lib.hid (by unfold bodyT; rw [hs, allR_not]; rfl)
    have HC : Hid (∀ w', Below ((w.alloc (.cells #[.bool r.choice, vh, .bool false, .int .i64 r.bound, .slice a2 r.body.length c2, .slice a3 r.w.length c3] 41)).alloc (.cells #[.func (.func 93) #[] #[.pointer (some ⟨mb, 0, none⟩)]] 66)).heap.size ((w.alloc (.cells #[.bool r.choice, vh, .bool false, .int .i64 r.bound, .slice a2 r.body.length c2, .slice a3 r.w.length c3] 41)).alloc (.cells #[.func (.func 93) #[] #[.pointer (some ⟨mb, 0, none⟩)]] 66)) w' → ∀ j, j < r.body.length → Calls Try.prog 91 #[.int .i64 (ix r.body j), .pointer (some ⟨w.heap.size + 1, 0, none⟩)] w' fun e w'' => e = .returned (.bool (!litT m (ix r.body j))) ∧ Below w'.heap.size w' w'') :=
      Lib.hid (fun w' hb j hj => (bodyc_any _ m mb _ w' (HIN.out.below hb) (HBX.out.below hb) ⟨hok.lit j hj, (hfit j).2⟩).mono fun e w'' ⟨e1, e2⟩ => ⟨e1, e2 ▸ Below.refl _ _⟩)
    clear hsl hs h hok hcb hcw
    go_enter Try.func62, Try.ntmps62
    go_wp2_with (go_at_call 40; (with_reducible refine (ctn_bd _ r.body _ HB.out (fun j => !litT m (ix r.body j)) _ HC.out).mono ?_); rintro e w1 ⟨rfl, hb1⟩)
    go_ret
    exact ⟨ret_bool HF.out.symm, bon hal hb1⟩
  | true =>
    rw [hs] at hal HBX HB HIN
    have HF : Hid (bodyT r m = decide (r.bound ≤ wsum m r r.body.length)) := Lib.hid (by unfold bodyT; rw [hs]; rfl)
    have HWB : Hid (∀ k, k ≤ r.body.length → 0 ≤ wsum m r k ∧ wsum m r k ≤ 1048576 * k) := Lib.hid (fun k hk => wsum_bound hok hs k hk)
    have hwl := hok.wlen hs
    have hlen := hok.len
    have HW : Hid (∀ j, j < r.w.length → 0 ≤ ix r.w j ∧ ix r.w j ≤ 1048576) := Lib.hid (hok.w hs)
    have HLT : Hid (∀ j, j < r.body.length → -9223372036854775808 < ix r.body j ∧ ix r.body j ≤ 9223372036854775807) := Lib.hid (fun j hj => ⟨hok.lit j hj, (hfit j).2⟩)
    have HWL := Lib.hid hwl
    have q0 := (Blk.newAt w [.bool r.choice, vh, .bool true, .int .i64 r.bound, .slice a2 r.body.length c2, .slice a3 r.w.length c3] 41 (b := w.heap.size) rfl).alloc (.cells #[.func (.func 93) #[] #[.pointer (some ⟨mb, 0, none⟩)]] 66)
    have kq := q0.cell
    have kx := HBX.out.cell 0
    have HCB : Hid (∀ j, j < r.body.length → ∃ b off, a2 = some ⟨b, off, none⟩ ∧ ((w.alloc (.cells #[.bool r.choice, vh, .bool true, .int .i64 r.bound, .slice a2 r.body.length c2, .slice a3 r.w.length c3] 41)).alloc (.cells #[.func (.func 93) #[] #[.pointer (some ⟨mb, 0, none⟩)]] 66)).cell? ⟨b, off + j, none⟩ = some (.int .i64 (ix r.body j))) := Lib.hid (fun j hj => by
      obtain ⟨b, off, e, hl, hc⟩ := hcb (by omega)
      exact ⟨b, off, e, (bcell hal _ _ hl).trans (hc j hj)⟩)
    have HCW : Hid (∀ j, j < r.w.length → ∃ b off, a3 = some ⟨b, off, none⟩ ∧ ((w.alloc (.cells #[.bool r.choice, vh, .bool true, .int .i64 r.bound, .slice a2 r.body.length c2, .slice a3 r.w.length c3] 41)).alloc (.cells #[.func (.func 93) #[] #[.pointer (some ⟨mb, 0, none⟩)]] 66)).cell? ⟨b, off + j, none⟩ = some (.int .i64 (ix r.w j))) := Lib.hid (fun j hj => by
      obtain ⟨b, off, e, hl, hc⟩ := hcw (by omega)
      exact ⟨b, off, e, (bcell hal _ _ hl).trans (hc j hj)⟩)
    have HAL := Lib.hid hal
    clear hsl hs h hok hcb hcw hal HBX q0 hwl
    go_enter Try.func62, Try.ntmps62
    go_upto_region 4 with fail
    generalize (w.alloc (.cells #[.bool r.choice, vh, .bool true, .int .i64 r.bound, .slice a2 r.body.length c2, .slice a3 r.w.length c3] 41)).alloc (.cells #[.func (.func 93) #[] #[.pointer (some ⟨mb, 0, none⟩)]] 66) = W at *
    go_wp2
    go_loop [5, 19] (fun s i => BdRel m r s i) (fun _ i => r.body.length - (intOf i).toNat)
    case atStart => exact ⟨0, Nat.zero_le _, rfl, rfl⟩
    case round =>
      obtain ⟨k, hk, rfl, rfl⟩ := hrel
      have hwb := HWB.out k hk
      by_cases hlt : k < r.body.length
      · obtain ⟨b1, o1, rfl, hc1⟩ := HCB.out k hlt
        obtain ⟨b2, o2, rfl, hc2⟩ := HCW.out k (by have := HWL.out; omega)
        have hltw : k < r.w.length := by have := HWL.out; omega
        have hwk := HW.out k hltw
        have HLK := Lib.hid (HLT.out k hlt)
        cases hh : litT m (ix r.body k) with
        | true =>
          have HN : Hid (wsum m r (k + 1) = wsum m r k + ix r.w k) := Lib.hid (by rw [wsum, hh]; rfl)
          have HHH := Lib.hid hh
          clear hh
          go_wp2_with (go_at_call 92; (with_reducible refine (holdsL_any _ m _ _ HIN.out HLK.out).mono ?_); rintro e w1 ⟨e1, rfl⟩; rw [HHH.out] at e1; subst e1)
          first
            | (go_round
               case rel => (exact ⟨k + 1, by omega, by go_num, by rw [HN.out]⟩)
               case measure => (simp [intOf]; omega))
            | (refine ⟨?_, ?_⟩
               · (exact ⟨k + 1, by omega, by go_num, by rw [HN.out]⟩)
               · (simp [intOf]; omega))
        | false =>
          have HN : Hid (wsum m r (k + 1) = wsum m r k) := Lib.hid (by rw [wsum, hh]; simp)
          have HHH := Lib.hid hh
          clear hh
          go_wp2_with (go_at_call 92; (with_reducible refine (holdsL_any _ m _ _ HIN.out HLK.out).mono ?_); rintro e w1 ⟨e1, rfl⟩; rw [HHH.out] at e1; subst e1)
          first
            | (go_round
               case rel => (exact ⟨k + 1, by omega, by go_num, by rw [HN.out]⟩)
               case measure => (simp [intOf]; omega))
            | (refine ⟨?_, ?_⟩
               · (exact ⟨k + 1, by omega, by go_num, by rw [HN.out]⟩)
               · (simp [intOf]; omega))
      · obtain rfl : k = r.body.length := by omega
        go_wp2
        go_ret
        exact ⟨ret_bool HF.out.symm, HAL.out⟩

/-! ### satisfied -/
set_option maxHeartbeats 1000000 in
theorem idx_hd (v : Value) (l : List Int) (w : World) (h : Ints w v l) (g : Nat → Bool) (cap : Value)
    (hg : ∀ w', Below w.heap.size w w' → ∀ j, j < l.length → Calls Try.prog 93 #[.int .i64 (ix l j), cap] w' fun e w'' => e = .returned (.bool (g j)) ∧ Below w'.heap.size w' w'') :
    Calls Try.prog 50 #[v, .func (.func 93) #[] #[cap]] w fun e w' => ∃ r, e = .returned (.int .i64 r) ∧ IxP l.length g r ∧ Below w.heap.size w w' := by
  obtain ⟨a1, c1, rfl, -, hl1, -, hcell⟩ := h.form
  have HG := Lib.hid hg
  clear h hg
  go_enter Try.func50, Try.ntmps50
  go_wp2
  go_loopw [8] (fun i wx => IxR l.length g w i wx) (fun i _ => l.length - (intOf i).toNat)
  case atStart => exact ⟨0, by omega, rfl, fun j hj => absurd hj (Nat.not_lt_zero _), Below.refl _ _⟩
  case round =>
    obtain ⟨k, hk, rfl, hall, hb⟩ := hrel
    have HA := Lib.hid hall
    clear hall
    by_cases hlt : k < l.length
    · obtain ⟨b, off, rfl, hbl, hc⟩ := hcell (by omega)
      have hk1 := (bcell hb _ _ hbl).trans (hc k hlt)
      clear hc hcell
      cases g1 : g k with
      | true =>
        have HK : Hid (_ = true) := Lib.hid g1
        have HC := Lib.hid (HG.out _ hb k hlt)
        rw [g1] at HC
        clear g1
        go_wp2_with (go_at_call 93; refine (HC.out).mono ?_; rintro e w1 ⟨rfl, hb1⟩)
        go_ret
        exact ⟨_, rfl, .inr ⟨k, hlt, rfl, HK.out, HA.out⟩, bon hb hb1⟩
      | false =>
        have HN := Lib.hid (lt_succ_all HA.out g1)
        have HC := Lib.hid (HG.out _ hb k hlt)
        rw [g1] at HC
        clear g1
        go_wp2_with (go_at_call 93; refine (HC.out).mono ?_; rintro e w1 ⟨rfl, hb1⟩)
        first
          | (go_roundw
             case rel => (exact ⟨k + 1, by omega, by go_num, HN.out, bon hb hb1⟩)
             case measure => (simp [intOf]; omega))
          | (refine ⟨?_, ?_⟩
             · (exact ⟨k + 1, by omega, by go_num, HN.out, bon hb hb1⟩)
             · (simp [intOf]; omega))
    · have HN : Hid (∀ j, j < l.length → g j = false) := Lib.hid (fun j hj => HA.out j (by omega))
      go_wp2
      go_ret
      exact ⟨_, rfl, .inl ⟨rfl, HN.out⟩, hb⟩

set_option maxHeartbeats 1000000 in
theorem ctn_hd (v : Value) (l : List Int) (w : World) (h : Ints w v l) (g : Nat → Bool) (cap : Value)
    (hg : ∀ w', Below w.heap.size w w' → ∀ j, j < l.length → Calls Try.prog 93 #[.int .i64 (ix l j), cap] w' fun e w'' => e = .returned (.bool (g j)) ∧ Below w'.heap.size w' w'') :
    Calls Try.prog 40 #[v, .func (.func 93) #[] #[cap]] w fun e w' => e = .returned (.bool (anyR l.length g)) ∧ Below w.heap.size w w' := by
  have HI := Lib.hid (idx_hd v l w h g cap hg)
  obtain ⟨a1, c1, rfl, -⟩ := h.form
  clear h hg
  go_enter Try.func40, Try.ntmps40
  go_wp2_with (go_at_call 50; refine (HI.out).mono ?_; rintro e w1 ⟨r, rfl, hr, hb1⟩; have HR := Lib.hid hr; clear hr)
  go_ret
  exact ⟨ret_bool HR.out.any, hb1⟩

/-- The rule is satisfied by m. -/
def satT (r : GR) (m : List Int) : Bool := r.choice || !bodyT r m || anyR r.head.length (fun j => decide (ix r.head j ∈ m))

end Go.Proofs.Ytdoecchigfdilaa
