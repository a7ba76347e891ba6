/- My texts Rea1, Rea2, Lp8R, AnyR, Mk1, Rf26p, merged. -/
import Derived.Test.YtfhpfbakoiekpaaGreatDoorM15
import Derived.Laws.EntriesVeiled
import Derived.Test.YtfhpfbakoiekpaaGreatDoorM14
import Derived.Test.YtfhpfbakoiekpaaGreatDoorM09
import Derived.Test.YtfhpfbakoiekpaaGreatDoorM02
import Derived.Test.YtfhpfbakoiekpaaGreatDoorM12
import Derived.Test.YtfhpfbakoiekpaaGreatDoorM04
import Derived.Maps.OwnIn
import Derived.Test.YtfhpfbakoiekpaaGreatDoorM13
import Derived.Test.YtfhpfbakoiekpaaGreatDoorM08
import Derived.Test.YtfhpfbakoiekpaaGreatDoorM05

/- loops: the closures of support.reasons. -/
namespace Go.Proofs.YtfhpfbakoiekpaaGreatDoor
open Go.RowKit

structure EnvR (w : World) (sb ab fb : Nat) (u : SU) (a : List Int) : Prop where
  sup : SupB w sb u
  asg : InU w ab a
  fn : Blk w fb [.func (.func 79) #[] #[.pointer (some ⟨ab, 0, none⟩)]] 73

theorem EnvR.below {w w' : World} {sb ab fb : Nat} {u : SU} {a : List Int} (h : EnvR w sb ab fb u a) (hb : Below w.heap.size w w') : EnvR w' sb ab fb u a := ⟨h.sup.below hb, h.asg.below hb, h.fn.below hb⟩

set_option maxHeartbeats 1000000 in
theorem r1_any (l : Int) (ab : Nat) (a : List Int) (w : World) (h : InU w ab a) (hl : 1 ≤ l.natAbs ∧ l.natAbs ≤ 1000000) :
    Calls Tryz.prog 79 #[.int .i64 l, .pointer (some ⟨ab, 0, none⟩)] w fun e w' => e = .returned (.bool (offB a l)) ∧ w = w' := by
  obtain ⟨va, h1, h2⟩ := h
  have k0 := h1.cell 0
  obtain ⟨a9, n9, c9, rfl⟩ : ∃ a9 n9 c9, va = .slice a9 n9 c9 := by obtain ⟨⟨x, y, e, -⟩, -⟩ := h2; exact ⟨_, _, _, e⟩
  have HA := Lib.hid h2
  have hl0 : l ≠ 0 := by omega
  have hl1 : -4611686018427387904 ≤ l ∧ l ≤ 4611686018427387904 := by omega
  have HL0 := Lib.hid hl0
  have HL1 := Lib.hid hl1
  clear h1 h2 hl0 hl1
  cases ho : offB a l with
  | true =>
    have HO := Lib.hid ho
    clear ho
    go_enter Tryz.func79, Tryz.ntmps79
    go_wp2_with (go_at_call 40; (with_reducible refine (lvalue_off _ a _ HA.out l HL0.out HL1.out HO.out).mono ?_); rintro e w1 ⟨rfl, rfl⟩)
    go_ret
    exact ⟨rfl, rfl⟩
  | false =>
    have HO := Lib.hid ho
    clear ho
    go_enter Tryz.func79, Tryz.ntmps79
    go_wp2_with (go_at_call 40; (with_reducible refine (lvalue_on _ a _ HA.out l HL0.out HL1.out HO.out).mono ?_); rintro e w1 ⟨r, hr, rfl, rfl⟩)
    go_ret
    exact ⟨ret_bool (decide_eq_false (by omega)), rfl⟩

section
variable {w : World} {sb fb ab : Nat} {u : SU} {a : List Int}

set_option maxHeartbeats 1000000 in
theorem r2_any (h : EnvR w sb ab fb u a) (x : Int) (hx : 1 ≤ x.natAbs ∧ x.natAbs ≤ 1000000) :
    Calls Tryz.prog 83 #[.int .i64 x, .pointer (some ⟨fb, 0, none⟩)] w fun e w' => e = .returned (.bool (offB a (-x))) ∧ w = w' := by
  have kf := h.fn.cell 0
  have HI := Lib.hid (r1_any (-x) ab a w h.asg (by omega))
  clear h
  go_enter Tryz.func83, Tryz.ntmps83
  go_wp2_with (go_at_call 79; (with_reducible refine (HI.out).mono ?_); rintro e w1 ⟨rfl, rfl⟩)
  go_ret
  exact ⟨rfl, rfl⟩

def qR (u : SU) (a : List Int) (x : Int) : Bool := intB u.S x || !offB a x

set_option maxHeartbeats 1000000 in
theorem r3_any (h : EnvR w sb ab fb u a) (x : Int) (hx : 1 ≤ x.natAbs ∧ x.natAbs ≤ 1000000) :
    Calls Tryz.prog 85 #[.int .i64 x, .pointer (some ⟨sb, 0, none⟩), .pointer (some ⟨fb, 0, none⟩)] w fun e w' => e = .returned (.bool (qR u a x)) ∧ Below w.heap.size w w' := by
  have HE := Lib.hid h
  obtain ⟨vh, vb, vw, vs, h0, hsl, hS, hb⟩ := h.sup
  have ks := h0.cell
  have HSU : Hid (SupIs w (.agg #[.bool u.r.choice, vh, .bool u.r.sum, .int .i64 u.r.bound, vb, vw, .int .i64 u.b, vs]) u) := Lib.hid ⟨_, _, _, _, rfl, hsl, hS, hb⟩
  have HX := Lib.hid hx
  have HQ : Hid (qR u a x = (intB u.S x || !offB a x)) := Lib.hid rfl
  clear h h0 hsl hS hx
  have HI := Lib.hid (internal_any _ u x w HSU.out)
  cases hi : intB u.S x with
  | true =>
    rw [hi] at HI HQ
    go_enter Tryz.func85, Tryz.ntmps85
    go_wp2_with (go_at_call 86; (with_reducible refine (HI.out).mono ?_); rintro e w1 ⟨rfl, hb1⟩; have HB1 := Lib.hid hb1; clear hb1)
    go_ret
    exact ⟨ret_bool HQ.out.symm, HB1.out⟩
  | false =>
    rw [hi] at HI HQ
    go_enter Tryz.func85, Tryz.ntmps85
    go_wp2_with (first
      | (go_at_call 79; (with_reducible refine (r1_any x ab a _ HE1.out.asg HX.out).mono ?_); rintro e w2 ⟨rfl, rfl⟩)
      | (go_at_call 86; (with_reducible refine (HI.out).mono ?_); rintro e w1 ⟨rfl, hb1⟩; have HB1 := Lib.hid hb1; have HE1 := Lib.hid (HE.out.below hb1); have kf1 := HE1.out.fn.cell 0; clear hb1))
    go_ret
    exact ⟨ret_bool (by rw [HQ.out]; simp), HB1.out⟩
end

set_option maxHeartbeats 1000000 in
theorem idx_r1 (v : Value) (l : List Int) (w : World) (h : Ints w v l) (g : Nat → Bool) (cap : Value)
    (hg : ∀ w', Below w.heap.size w w' → ∀ j, j < l.length → Calls Tryz.prog 79 #[.int .i64 (ix l j), cap] w' fun e w'' => e = .returned (.bool (g j)) ∧ Below w'.heap.size w' w'') :
    Calls Tryz.prog 81 #[v, .func (.func 79) #[] #[cap]] w fun e w' => ∃ r, e = .returned (.int .i64 r) ∧ IxP l.length g r ∧ Below w.heap.size w w' := by
  obtain ⟨a1, c1, rfl, -, hl1, -, hcell⟩ := h.form
  have HG := Lib.hid hg
  clear h hg
  go_enter Tryz.func81, Tryz.ntmps81
  go_wp2
  go_loopw [8] (fun i wx => IxR l.length g w i wx) (fun i _ => l.length - (intOf i).toNat)
  case atStart => exact ⟨0, by omega, rfl, fun j hj => absurd hj (Nat.not_lt_zero _), Below.refl _ _⟩
  case round =>
    obtain ⟨k, hk, rfl, hall, hb⟩ := hrel
    have HA := Lib.hid hall
    clear hall
    by_cases hlt : k < l.length
    · obtain ⟨b, off, rfl, hbl, hc⟩ := hcell (by omega)
      have hk1 := (bcell hb _ _ hbl).trans (hc k hlt)
      clear hc hcell
      cases g1 : g k with
      | true =>
        have HK : Hid (_ = true) := Lib.hid g1
        have HC := Lib.hid (HG.out _ hb k hlt)
        rw [g1] at HC
        clear g1
        go_wp2_with (go_at_call 79; refine (HC.out).mono ?_; rintro e w1 ⟨rfl, hb1⟩)
        go_ret
        exact ⟨_, rfl, .inr ⟨k, hlt, rfl, HK.out, HA.out⟩, bon hb hb1⟩
      | false =>
        have HN := Lib.hid (lt_succ_all HA.out g1)
        have HC := Lib.hid (HG.out _ hb k hlt)
        rw [g1] at HC
        clear g1
        go_wp2_with (go_at_call 79; refine (HC.out).mono ?_; rintro e w1 ⟨rfl, hb1⟩)
        first
          | (go_roundw
             case rel => (exact ⟨k + 1, by omega, by go_num, HN.out, bon hb hb1⟩)
             case measure => (simp [intOf]; omega))
          | (refine ⟨?_, ?_⟩
             · (exact ⟨k + 1, by omega, by go_num, HN.out, bon hb hb1⟩)
             · (simp [intOf]; omega))
    · have HN : Hid (∀ j, j < l.length → g j = false) := Lib.hid (fun j hj => HA.out j (by omega))
      go_wp2
      go_ret
      exact ⟨_, rfl, .inl ⟨rfl, HN.out⟩, hb⟩

set_option maxHeartbeats 1000000 in
theorem idx_r2 (v : Value) (l : List Int) (w : World) (h : Ints w v l) (g : Nat → Bool) (cap : Value)
    (hg : ∀ w', Below w.heap.size w w' → ∀ j, j < l.length → Calls Tryz.prog 83 #[.int .i64 (ix l j), cap] w' fun e w'' => e = .returned (.bool (g j)) ∧ Below w'.heap.size w' w'') :
    Calls Tryz.prog 81 #[v, .func (.func 83) #[] #[cap]] w fun e w' => ∃ r, e = .returned (.int .i64 r) ∧ IxP l.length g r ∧ Below w.heap.size w w' := by
  obtain ⟨a1, c1, rfl, -, hl1, -, hcell⟩ := h.form
  have HG := Lib.hid hg
  clear h hg
  go_enter Tryz.func81, Tryz.ntmps81
  go_wp2
  go_loopw [8] (fun i wx => IxR l.length g w i wx) (fun i _ => l.length - (intOf i).toNat)
  case atStart => exact ⟨0, by omega, rfl, fun j hj => absurd hj (Nat.not_lt_zero _), Below.refl _ _⟩
  case round =>
    obtain ⟨k, hk, rfl, hall, hb⟩ := hrel
    have HA := Lib.hid hall
    clear hall
    by_cases hlt : k < l.length
    · obtain ⟨b, off, rfl, hbl, hc⟩ := hcell (by omega)
      have hk1 := (bcell hb _ _ hbl).trans (hc k hlt)
      clear hc hcell
      cases g1 : g k with
      | true =>
        have HK : Hid (_ = true) := Lib.hid g1
        have HC := Lib.hid (HG.out _ hb k hlt)
        rw [g1] at HC
        clear g1
        go_wp2_with (go_at_call 83; refine (HC.out).mono ?_; rintro e w1 ⟨rfl, hb1⟩)
        go_ret
        exact ⟨_, rfl, .inr ⟨k, hlt, rfl, HK.out, HA.out⟩, bon hb hb1⟩
      | false =>
        have HN := Lib.hid (lt_succ_all HA.out g1)
        have HC := Lib.hid (HG.out _ hb k hlt)
        rw [g1] at HC
        clear g1
        go_wp2_with (go_at_call 83; refine (HC.out).mono ?_; rintro e w1 ⟨rfl, hb1⟩)
        first
          | (go_roundw
             case rel => (exact ⟨k + 1, by omega, by go_num, HN.out, bon hb hb1⟩)
             case measure => (simp [intOf]; omega))
          | (refine ⟨?_, ?_⟩
             · (exact ⟨k + 1, by omega, by go_num, HN.out, bon hb hb1⟩)
             · (simp [intOf]; omega))
    · have HN : Hid (∀ j, j < l.length → g j = false) := Lib.hid (fun j hj => HA.out j (by omega))
      go_wp2
      go_ret
      exact ⟨_, rfl, .inl ⟨rfl, HN.out⟩, hb⟩

/-! ### The plain side -/
theorem find_ixp {l : List Int} {p : Int → Bool} {r : Int} (h : IxP l.length (fun j => p (ix l j)) r) : (r = -1 ∧ l.find? p = none) ∨ ∃ k : Nat, k < l.length ∧ r = k ∧ l.find? p = some (ix l k) := by
  rcases h with ⟨rfl, h⟩ | ⟨k, hk, rfl, hg, hb⟩
  · refine .inl ⟨rfl, List.find?_eq_none.2 fun x hx => ?_⟩
    obtain ⟨j, hj, rfl⟩ := mem_ix.1 hx
    have := h j hj
    simp only at this
    rw [this]; exact Bool.false_ne_true
  · refine .inr ⟨k, hk, rfl, ?_⟩
    rw [List.find?_eq_some_iff_getElem]
    simp only at hg hb
    have e : ∀ j, (hj : j < l.length) → ix l j = l[j] := fun j hj => by simp [ix, List.getD_eq_getElem?_getD, List.getElem?_eq_getElem hj]
    refine ⟨hg, k, hk, (e k hk).symm, fun j hj => ?_⟩
    have := hb j hj
    rw [e j (by omega)] at this
    simp [this]

end Go.Proofs.YtfhpfbakoiekpaaGreatDoor

/- loops: support.reasons. -/
namespace Go.Proofs.YtfhpfbakoiekpaaGreatDoor
open Go.RowKit

set_option maxHeartbeats 4000000 in
set_option maxRecDepth 100000 in
theorem reasons_any (vu va : Value) (u : SU) (a : List Int) (w : World) (h : SupIs w vu u) (hok : SUok u) (ha : Bytes8 w va a) :
    Calls Tryz.prog 29 #[vu, va] w fun e w' => ∃ v, e = .returned v ∧ Ints w' v (reasP u a) ∧ Below w.heap.size w w' := by
  have h0 := h
  obtain ⟨vh, vb, vw, vs, rfl, hsl, hS, hb⟩ := h
  obtain ⟨a1, c1, rfl, -, hl1, -, -⟩ := hsl.head.form
  obtain ⟨a2, c2, rfl, hc2, hl2, hbi, hcell2⟩ := hsl.body.form
  obtain ⟨a3, c3, rfl, -, hl3, -, -⟩ := hsl.wts.form
  obtain ⟨a4, c4, rfl, -, hl4, -, -⟩ := hS.form
  obtain ⟨a9, n9, c9, rfl⟩ : ∃ a9 n9 c9, va = .slice a9 n9 c9 := by obtain ⟨⟨x, y, e, -⟩, -⟩ := ha; exact ⟨_, _, _, e⟩
  have hal : Below w.heap.size w ((w.alloc (.cells #[.bool u.r.choice, .slice a1 u.r.head.length c1, .bool u.r.sum, .int .i64 u.r.bound, .slice a2 u.r.body.length c2, .slice a3 u.r.w.length c3, .int .i64 u.b, .slice a4 u.S.length c4] 63)).alloc (.cells #[.slice a9 n9 c9] 28)) := bal (bal (Below.refl _ _) _) _
  have hb1 := (Blk.new w [.bool u.r.choice, .slice a1 u.r.head.length c1, .bool u.r.sum, .int .i64 u.r.bound, .slice a2 u.r.body.length c2, .slice a3 u.r.w.length c3, .int .i64 u.b, .slice a4 u.S.length c4] 63).alloc (.cells #[.slice a9 n9 c9] 28)
  have hb2 := Blk.new2 w (.cells #[.bool u.r.choice, .slice a1 u.r.head.length c1, .bool u.r.sum, .int .i64 u.r.bound, .slice a2 u.r.body.length c2, .slice a3 u.r.w.length c3, .int .i64 u.b, .slice a4 u.S.length c4] 63) [.slice a9 n9 c9] 28
  have hsz : ((w.alloc (.cells #[.bool u.r.choice, .slice a1 u.r.head.length c1, .bool u.r.sum, .int .i64 u.r.bound, .slice a2 u.r.body.length c2, .slice a3 u.r.w.length c3, .int .i64 u.b, .slice a4 u.S.length c4] 63)).alloc (.cells #[.slice a9 n9 c9] 28)).heap.size = w.heap.size + 1 + 1 := by simp
  have HAL := Lib.hid hal
  have HBK := Lib.hid hb1
  have HSZ := Lib.hid hsz
  have HA : Hid (InU _ (w.heap.size + 1) a) := Lib.hid ⟨_, hb2, ha.below hal⟩
  have HSU := Lib.hid (h0.below hal)
  have HSB : Hid (SupB _ w.heap.size u) := Lib.hid ⟨_, _, _, _, hb1, hsl.below hal, hS.below hal, hb⟩
  have HOK := Lib.hid hok
  have hbb := hok.b
  have HBI := Lib.hid hbi
  have h8b : u.r.body.length * 8 ≤ 140737488351232 := by obtain ⟨⟨_, _, _, _, _, h, _⟩, _⟩ := hbi; exact h
  have HCB := Lib.hid hcell2
  clear h0 hal hb1 hb2 hsz ha hS hcell2 hok hbi
  have HSL := Lib.hid hsl
  clear hsl
  go_enter Tryz.func29, Tryz.ntmps29
  go_upto_region 1 with fail
  generalize (w.alloc (.cells #[.bool u.r.choice, .slice a1 u.r.head.length c1, .bool u.r.sum, .int .i64 u.r.bound, .slice a2 u.r.body.length c2, .slice a3 u.r.w.length c3, .int .i64 u.b, .slice a4 u.S.length c4] 63)).alloc (.cells #[.slice a9 n9 c9] 28) = W at *
  go_upto_region 2 with fail
  have hal5 := bal (Below.refl W.heap.size W) (.cells #[.func (.func 79) #[] #[.pointer (some ⟨w.heap.size + 1, 0, none⟩)]] 73)
  have HF5 := Lib.hid (Blk.new W [.func (.func 79) #[] #[.pointer (some ⟨w.heap.size + 1, 0, none⟩)]] 73)
  have HB5 := Lib.hid (bon HAL.out hal5)
  have HE : Hid (EnvR _ w.heap.size (w.heap.size + 1) W.heap.size u a) := Lib.hid ⟨HSB.out.below hal5, HA.out.below hal5, HF5.out⟩
  have HSU5 := Lib.hid (HSU.out.below hal5)
  have HBK5 := Lib.hid (HBK.out.below hal5)
  clear hal5 HSB HA HSU
  generalize W.alloc (.cells #[.func (.func 79) #[] #[.pointer (some ⟨w.heap.size + 1, 0, none⟩)]] 73) = W5 at *
  have kx5 := HBK5.out.cell
  have kf5 := HF5.out.cell 0
  have hol : (oth u).length * 8 ≤ 140737488351232 := by
    have h1 := HOK.out.hlen
    have h2 := keepF_le (fun x => decide (x ∈ u.S)) u.r.head u.r.head.length
    unfold oth
    split
    · simp
    · omega
  cases him : impB u with
  | true =>
    have HIM := Lib.hid him
    have HF : Hid (reasP u a = []) := Lib.hid (by unfold reasP; rw [him]; rfl)
    clear him
    go_wp2_with (go_at_call 80; (with_reducible refine (impossible_any _ u W5 HSU5.out HOK.out).mono ?_); rintro e w6 ⟨he, hb6⟩; rw [HIM.out] at he; subst he; have HB6 := Lib.hid (bon HB5.out hb6); clear hb6)
    go_ret
    exact ⟨_, rfl, by rw [HF.out]; exact nil_ints _, HB6.out⟩
  | false =>
    have HIM := Lib.hid him
    go_upto_region 4 with (go_at_call 80; (with_reducible refine (impossible_any _ u W5 HSU5.out HOK.out).mono ?_); rintro e w6 ⟨he, hb6⟩; rw [HIM.out] at he; subst he; have HB6 := Lib.hid (bon HB5.out hb6); have HE6 := Lib.hid (HE.out.below hb6); have HBK6 := Lib.hid (HBK5.out.below hb6); have HF6 := Lib.hid (HF5.out.below hb6); have HSU6 := Lib.hid (HSU5.out.below hb6); clear hb6)
    have kx6 := HBK6.out.cell
    have kf6 := HF6.out.cell 0
    have HR1 := Lib.hid (r1_any u.b (w.heap.size + 1) a w6 HE6.out.asg (by omega))
    clear kx5 kf5
    cases ho : offB a u.b with
    | true =>
      have HF : Hid (reasP u a = [u.b]) := Lib.hid (by unfold reasP; rw [him, ho]; rfl)
      rw [ho] at HR1
      clear him ho
      go_wp2_with (go_at_call 79; (with_reducible refine (HR1.out).mono ?_); rintro e w7 ⟨rfl, rfl⟩)
      go_ret
      exact ⟨_, rfl, by rw [HF.out]; exact (Blk.new w6 [.int .i64 u.b] _).ints1 hb, bal HB6.out _⟩
    | false =>
      have HRP0 : Hid (reasP u a = reas1 u a) := Lib.hid (by unfold reasP; rw [him, ho]; rfl)
      rw [ho] at HR1
      clear him ho
      have HBI6 := Lib.hid (HBI.out.below HB6.out)
      have HIX := Lib.hid (idx_r1 _ u.r.body w6 HBI6.out (fun j => offB a (ix u.r.body j)) _ (fun w' hb' j hj => (r1_any _ (w.heap.size + 1) a w' (HE6.out.below hb').asg (HOK.out.lits j hj)).mono fun e w'' ⟨e1, e2⟩ => ⟨e1, e2 ▸ Below.refl _ _⟩))
      go_upto_region 7 with (first
        | (go_at_call 81; (with_reducible refine (HIX.out).mono ?_); rintro e w7 ⟨r, rfl, hr, hb7⟩; have HR7 := Lib.hid hr; have HB7 := Lib.hid (bon HB6.out hb7); have HE7 := Lib.hid (HE6.out.below hb7); have HBK7 := Lib.hid (HBK6.out.below hb7); have HSU7 := Lib.hid (HSU6.out.below hb7); clear hr hb7)
        | (go_at_call 79; (with_reducible refine (HR1.out).mono ?_); rintro e w6' ⟨rfl, rfl⟩))
      clear kx6 kf6 HIX
      rcases find_ixp (p := offB a) HR7.out with ⟨rfl, hfn⟩ | ⟨k, hk, rfl, hfn⟩
      · have HRP : Hid (reasP u a = reas2 u a) := Lib.hid (by rw [HRP0.out]; unfold reas1; rw [hfn]; split <;> rfl)
        have kx7 := HBK7.out.cell
        clear hfn
        go_upto_region 10 with (go_at_call 82; (with_reducible refine (others_any _ u w7 HSU7.out).mono ?_); rintro e w8 ⟨a8, n8, c8, rfl, hq8, hb8⟩; have HO8 := Lib.hid (hq8.ints hol); have HB8 := Lib.hid (bon HB7.out hb8); have HE8 := Lib.hid (HE7.out.below hb8); have HSB8 := Lib.hid (HBK7.out.below hb8); clear hq8 hb8)
        obtain ⟨_, _, e8, -, -, -, hcell8⟩ := HO8.out.form
        simp only [Value.slice.injEq] at e8
        obtain ⟨rfl, rfl, rfl⟩ := e8
        have HIX2 := Lib.hid (idx_r2 _ (oth u) w8 HO8.out (fun j => offB a (-(ix (oth u) j))) _ (fun w' hb' j hj => (r2_any (HE8.out.below hb') _ (by have := oth_mem HOK.out hj; omega)).mono fun e w'' ⟨e1, e2⟩ => ⟨e1, e2 ▸ Below.refl _ _⟩))
        go_upto_region 11 with (go_at_call 81; (with_reducible refine (HIX2.out).mono ?_); rintro e w9 ⟨r9, rfl, hr9, hb9⟩; have HR9 := Lib.hid hr9; have HB9 := Lib.hid (bon HB8.out hb9); have HE9 := Lib.hid (HE8.out.below hb9); have HSB9 := Lib.hid (HSB8.out.below hb9); have HBN9 := Lib.hid hb9; clear hr9 hb9)
        rcases find_ixp (p := fun h => offB a (-h)) HR9.out with ⟨rfl, hfn⟩ | ⟨k9, hk9, rfl, hfn⟩
        · have HF : Hid (reasP u a = keepF (qR u a) u.r.body u.r.body.length) := Lib.hid (by rw [HRP.out]; unfold reas2; rw [hfn]; unfold keepF; rw [List.take_length]; rfl)
          clear hfn hcell8
          have kx9 := HSB9.out.cell
          go_wp2_with (first | (go_at_call 84; (with_reducible refine (delf_rowR HOC.out hzc (qR u a) _ _ (fun w' hb' j hj => r3_any (HE9.out.below (HBC.out.trans hb')) _ (HOK.out.lits j hj))).mono ?_); rintro e w11 ⟨a11, n11, c11, rfl, hq11, hb11⟩; have HQ11 := Lib.hid hq11; have HB11 := Lib.hid hb11; clear hq11 hb11) | (go_at_call 59; (with_reducible refine (cloneI_any _ u.r.body w9 (HBI.out.below HB9.out)).mono ?_); rintro e w10 ⟨v10, rfl, ho10, hb10⟩; have HOC := Lib.hid ho10; have HBC := Lib.hid hb10; have hzc := hb10.size; clear ho10 hb10))
          go_ret
          refine ⟨_, rfl, ?_, bon HB9.out (HBC.out.trans HB11.out)⟩
          rw [HF.out]
          exact HQ11.out.ints (by have h1 := keepF_le (qR u a) u.r.body u.r.body.length; omega)
        · have HF : Hid (reasP u a = [-(ix (oth u) k9)]) := Lib.hid (by rw [HRP.out]; unfold reas2; rw [hfn])
          obtain ⟨b8, o8, rfl, hb8', hc8⟩ := hcell8 (by omega)
          have hcx := (bcell HBN9.out _ _ hb8').trans (hc8 k9 hk9)
          have hxm := oth_mem HOK.out hk9
          clear hfn hc8 hcell8
          go_wp2
          go_ret
          exact ⟨_, rfl, by rw [HF.out]; exact (Blk.new w9 [.int .i64 (-(ix (oth u) k9))] _).ints1 (by unfold InI; omega), bal HB9.out _⟩
      · cases hs : u.r.sum with
        | true =>
          have HRP : Hid (reasP u a = reas2 u a) := Lib.hid (by rw [HRP0.out]; unfold reas1; rw [if_pos hs])
          rw [hs] at HSU7 HBK7
          have kx7 := HBK7.out.cell
          clear hfn hs
          go_upto_region 10 with (go_at_call 82; (with_reducible refine (others_any _ u w7 HSU7.out).mono ?_); rintro e w8 ⟨a8, n8, c8, rfl, hq8, hb8⟩; have HO8 := Lib.hid (hq8.ints hol); have HB8 := Lib.hid (bon HB7.out hb8); have HE8 := Lib.hid (HE7.out.below hb8); have HSB8 := Lib.hid (HBK7.out.below hb8); clear hq8 hb8)
          obtain ⟨_, _, e8, -, -, -, hcell8⟩ := HO8.out.form
          simp only [Value.slice.injEq] at e8
          obtain ⟨rfl, rfl, rfl⟩ := e8
          have HIX2 := Lib.hid (idx_r2 _ (oth u) w8 HO8.out (fun j => offB a (-(ix (oth u) j))) _ (fun w' hb' j hj => (r2_any (HE8.out.below hb') _ (by have := oth_mem HOK.out hj; omega)).mono fun e w'' ⟨e1, e2⟩ => ⟨e1, e2 ▸ Below.refl _ _⟩))
          go_upto_region 11 with (go_at_call 81; (with_reducible refine (HIX2.out).mono ?_); rintro e w9 ⟨r9, rfl, hr9, hb9⟩; have HR9 := Lib.hid hr9; have HB9 := Lib.hid (bon HB8.out hb9); have HE9 := Lib.hid (HE8.out.below hb9); have HSB9 := Lib.hid (HSB8.out.below hb9); have HBN9 := Lib.hid hb9; clear hr9 hb9)
          rcases find_ixp (p := fun h => offB a (-h)) HR9.out with ⟨rfl, hfn⟩ | ⟨k9, hk9, rfl, hfn⟩
          · have HF : Hid (reasP u a = keepF (qR u a) u.r.body u.r.body.length) := Lib.hid (by rw [HRP.out]; unfold reas2; rw [hfn]; unfold keepF; rw [List.take_length]; rfl)
            clear hfn hcell8
            have kx9 := HSB9.out.cell
            go_wp2_with (first | (go_at_call 84; (with_reducible refine (delf_rowR HOC.out hzc (qR u a) _ _ (fun w' hb' j hj => r3_any (HE9.out.below (HBC.out.trans hb')) _ (HOK.out.lits j hj))).mono ?_); rintro e w11 ⟨a11, n11, c11, rfl, hq11, hb11⟩; have HQ11 := Lib.hid hq11; have HB11 := Lib.hid hb11; clear hq11 hb11) | (go_at_call 59; (with_reducible refine (cloneI_any _ u.r.body w9 (HBI.out.below HB9.out)).mono ?_); rintro e w10 ⟨v10, rfl, ho10, hb10⟩; have HOC := Lib.hid ho10; have HBC := Lib.hid hb10; have hzc := hb10.size; clear ho10 hb10))
            go_ret
            refine ⟨_, rfl, ?_, bon HB9.out (HBC.out.trans HB11.out)⟩
            rw [HF.out]
            exact HQ11.out.ints (by have h1 := keepF_le (qR u a) u.r.body u.r.body.length; omega)
          · have HF : Hid (reasP u a = [-(ix (oth u) k9)]) := Lib.hid (by rw [HRP.out]; unfold reas2; rw [hfn])
            obtain ⟨b8, o8, rfl, hb8', hc8⟩ := hcell8 (by omega)
            have hcx := (bcell HBN9.out _ _ hb8').trans (hc8 k9 hk9)
            have hxm := oth_mem HOK.out hk9
            clear hfn hc8 hcell8
            go_wp2
            go_ret
            exact ⟨_, rfl, by rw [HF.out]; exact (Blk.new w9 [.int .i64 (-(ix (oth u) k9))] _).ints1 (by unfold InI; omega), bal HB9.out _⟩
        | false =>
          have HRP : Hid (reasP u a = [ix u.r.body k]) := Lib.hid (by rw [HRP0.out]; unfold reas1; rw [if_neg (by rw [hs]; exact Bool.false_ne_true), hfn])
          rw [hs] at HBK7
          have kx7 := HBK7.out.cell
          clear hfn hs
          obtain ⟨b2, o2, rfl, hb2', hc2'⟩ := HCB.out (by omega)
          have hcx := (bcell HB7.out _ _ hb2').trans (hc2' k hk)
          have hlt7 : b2 < w7.heap.size := Nat.lt_of_lt_of_le hb2' HB7.out.size
          have hmx : c2 ≤ maxLen := by
            obtain ⟨⟨_, _, e, -, h, -⟩, -⟩ := HBI.out
            simp only [Value.slice.injEq] at e
            rw [e.2.2]; exact h
          have hxl := HOK.out.lits k hk
          clear hc2'
          go_wp2
          go_ret
          refine ⟨_, rfl, ?_, HB7.out⟩
          rw [HRP.out]
          refine ⟨⟨_, c2 - k, rfl, by simp; omega, by omega, by simp, fun _ => ⟨b2, o2 + k, rfl, hlt7, fun i hi => ?_⟩⟩, fitI (fun x hx => by obtain rfl := List.mem_singleton.1 hx; unfold InI; omega)⟩
          simp only [List.length_singleton] at hi
          obtain rfl : i = 0 := by omega
          exact hcx

end Go.Proofs.YtfhpfbakoiekpaaGreatDoor

/- loops: the iterator supports$1: its contract, several blocks being written by the body (printed by supsr.py). -/
namespace Go.Proofs.YtfhpfbakoiekpaaGreatDoor
open Go.RowKit

attribute [local go_sem] Oper.semAt_some

theorem SupSt.limR {wi w0 w w' : World} {p : GP} {S : List Int} {pb sb : Nat} {R : List Nat} {vn vs vr vm vset : Value} (h : SupSt wi w p S pb sb vn vs vr vm vset) (hl : Lim w0.heap.size R w w') (hN : wi.heap.size ≤ w0.heap.size) (hR : ∀ i ∈ R, wi.heap.size ≤ i) (hp : pb < w0.heap.size ∧ pb ∉ R) (hs : sb < w0.heap.size ∧ sb ∉ R) : SupSt wi w' p S pb sb vn vs vr vm vset :=
  ⟨h.below.trans ((hl.mono hN (fun _ hi _ => hi)).below (fun i hi => hR i hi)), h.pb.same (hl.block _ hp.1 hp.2), h.sb.same (hl.block _ hs.1 hs.2)⟩

def SUok2 (u : SU) : Prop := SUok u ∧ u.r.body.length ≤ 8002

/-- A support as a value, its body's length bounded. -/
abbrev SupW (w : World) := { x : Value × SU // SupIs w x.1 x.2 ∧ SUok2 x.2 }
def suw {w : World} (l : List (SupW w)) : List SU := l.map (·.1.2)
theorem suw_snoc {w : World} (l : List (SupW w)) (x : SupW w) : suw (l ++ [x]) = suw l ++ [x.1.2] := by simp [suw]
theorem suw_len {w : World} (l : List (SupW w)) : (suw l).length = l.length := by simp [suw]

theorem SupW.form {w : World} (x : SupW w) : ∃ vh vb vw vs, x.1.1 = .agg #[.bool x.1.2.r.choice, vh, .bool x.1.2.r.sum, .int .i64 x.1.2.r.bound, vb, vw, .int .i64 x.1.2.b, vs] ∧ (∃ a n c, vh = .slice a n c) ∧ (∃ a n c, vb = .slice a n c) ∧ (∃ a n c, vw = .slice a n c) ∧ ∃ a n c, vs = .slice a n c := by
  obtain ⟨vh, vb, vw, vs, e, h1, h2, h3⟩ := x.2.1
  obtain ⟨⟨_, _, e1, -⟩, -⟩ := h1.head
  obtain ⟨⟨_, _, e2, -⟩, -⟩ := h1.body
  obtain ⟨⟨_, _, e3, -⟩, -⟩ := h1.wts
  obtain ⟨⟨_, _, e4, -⟩, -⟩ := h2
  exact ⟨_, _, _, _, e, ⟨_, _, _, e1⟩, ⟨_, _, _, e2⟩, ⟨_, _, _, e3⟩, ⟨_, _, _, e4⟩⟩

def SupSlotsR (wi : World) (p : GP) (S : List Int) (n0 : Nat) (W0 : World) (R : List Nat) (J : List (SupW wi) → World → Prop) (i : Value) (wr : World) : Prop :=
  ∃ (k : Nat) (pre : List (SupW wi)), k ≤ p.rules.length ∧ i = .int .i64 k ∧ suw pre = supsTo p S k ∧ J pre wr ∧ Lim n0 R W0 wr

set_option maxHeartbeats 4000000 in
set_option maxRecDepth 100000 in
theorem sups_stopsR (p : GP) (S : List Int) (wi w0 : World) (vn vs vr vm vset : Value) (hP : ProgIs wi (.agg #[.int .i64 p.n, vn, vs, vr, vm]) p) (hS : Ints wi vset S) (R : List Nat) (pb sb : Nat)
    (hst : SupSt wi w0 p S pb sb vn vs vr vm vset) (hR : ∀ i ∈ R, wi.heap.size ≤ i) (hne : pb ∉ R ∧ sb ∉ R) (hok : ∀ k, k < p.rules.length → SUok2 (supAt p S k)) (n : Nat) (hn : 1 ≤ n) :
    SeqStopsK Fence.wide n Tryz.prog 77 #[.pointer (some ⟨pb, 0, none⟩), .pointer (some ⟨sb, 0, none⟩)] (fun x : SupW wi => #[x.1.1]) (Lim w0.heap.size R)
      (fun xs => suw xs = supsTo p S p.rules.length) (fun pre => ∃ k, k ≤ p.rules.length ∧ suw pre = supsTo p S k) p.rules.length w0 := by
  intro l J Jx W hW hJ hJx hY h0
  obtain ⟨vn', vs', vr', vm', e, hPS⟩ := hP
  simp only [Value.agg.injEq, Array.mk.injEq, List.cons.injEq, and_true] at e
  obtain ⟨-, rfl, rfl, rfl, rfl⟩ := e
  obtain ⟨a1, c1, rfl, -, hl1, -, hcell⟩ := hPS.rules.form
  have hP : Hid (ProgIs wi (.agg #[.int .i64 p.n, vn, vs, .slice a1 p.rules.length c1, vm]) p) := Lib.hid ⟨_, _, _, _, rfl, hPS⟩
  obtain ⟨a4, c4, rfl, -, hl4, -, -⟩ := hS.form
  have HS := Lib.hid hS
  have HST := Lib.hid hst
  have HOK := Lib.hid hok
  have HY := Lib.hid hY
  have HJ := Lib.hid hJ
  have HJX := Lib.hid hJx
  have H0 := Lib.hid h0
  have HW := Lib.hid hW
  have HCELL := Lib.hid hcell
  have HPS := Lib.hid hPS
  have hpbl := hst.pb.lt
  have hsbl := hst.sb.lt
  have hN := hst.below.size
  have HSW : Hid (SupSt wi W p S pb sb vn vs (.slice a1 p.rules.length c1) vm (.slice a4 S.length c4)) := Lib.hid (hst.on hW)
  have kp := HSW.out.pb.cell
  have hzW := hW.size
  clear hS hst hok hY hJ hJx h0 hW hcell hPS
  refine callsIn_of_wp Tryz.func77 rfl trivial ?_ rfl
  simp only [Tryz.ntmps77, List.size_toArray, List.length_cons, List.length_nil, Nat.reduceAdd, Nat.reduceSub, Array.replicate_succ, Array.replicate_zero, List.push_toArray, List.append_toArray, List.nil_append, List.cons_append]
  gi_wp2
  clear kp
  gi_loopw [9] (fun i wr => SupSlotsR wi p S w0.heap.size W R J i wr) (fun i _ => p.rules.length - (intOf i).toNat)
  case atStart => exact ⟨0, [], Nat.zero_le _, rfl, rfl, H0.out, Lim.refl _ _ _⟩
  case round =>
    obtain ⟨k, pre, hk, rfl, hpre, hj, hlim⟩ := hrel
    have HJR := Lib.hid hj
    have HPRE := Lib.hid hpre
    have HLIM := Lib.hid hlim
    have HSR : Hid (SupSt wi wr p S pb sb vn vs (.slice a1 p.rules.length c1) vm (.slice a4 S.length c4)) := Lib.hid (HSW.out.limR hlim (by omega) hR ⟨by omega, hne.1⟩ ⟨by omega, hne.2⟩)
    clear hj hpre hlim
    by_cases hlt : k < p.rules.length
    · obtain ⟨b, off, rfl, hbl, hc⟩ := HCELL.out (by omega)
      obtain ⟨vh, vb, vw, ⟨k0, k1, k2, k3, k4, k5⟩, hsl⟩ := hc k hlt
      have hbw := HSR.out.below
      have hk0 := (bcell hbw _ _ hbl).trans k0
      have hk1 := (bcell hbw _ _ hbl).trans k1
      have hk2 := (bcell hbw _ _ hbl).trans k2
      have hk3 := (bcell hbw _ _ hbl).trans k3
      have hk4 := (bcell hbw _ _ hbl).trans k4
      have hk5 := (bcell hbw _ _ hbl).trans k5
      have HSL := Lib.hid hsl
      obtain ⟨ah, ch, rfl, -, hlh, -, -⟩ := hsl.head.form
      obtain ⟨ab, cb, rfl, -, hlb, -, -⟩ := hsl.body.form
      obtain ⟨aw, cw, rfl, -, hlw, -, -⟩ := hsl.wts.form
      clear hc k0 k1 k2 k3 k4 k5 hsl hbw
      have hal := bal (Below.refl wr.heap.size wr) (.cells #[.bool (ixR p.rules k).choice, .slice ah (ixR p.rules k).head.length ch, .bool (ixR p.rules k).sum, .int .i64 (ixR p.rules k).bound, .slice ab (ixR p.rules k).body.length cb, .slice aw (ixR p.rules k).w.length cw] 54)
      have hbr := Blk.new wr [.bool (ixR p.rules k).choice, .slice ah (ixR p.rules k).head.length ch, .bool (ixR p.rules k).sum, .int .i64 (ixR p.rules k).bound, .slice ab (ixR p.rules k).body.length cb, .slice aw (ixR p.rules k).w.length cw] 54
      have hj1 := (AbidesFrom.below HJ.out HJR.out hal)
      have hs1 := HSR.out.on hal
      have hl1' : Lim w0.heap.size R W (wr.alloc (.cells #[.bool (ixR p.rules k).choice, .slice ah (ixR p.rules k).head.length ch, .bool (ixR p.rules k).sum, .int .i64 (ixR p.rules k).bound, .slice ab (ixR p.rules k).body.length cb, .slice aw (ixR p.rules k).w.length cw] 54)) := HLIM.out.trans (.of_below hal (Nat.le_trans hzW HLIM.out.size))
      gi_wp2_with fail
      generalize wr.alloc (.cells #[.bool (ixR p.rules k).choice, .slice ah (ixR p.rules k).head.length ch, .bool (ixR p.rules k).sum, .int .i64 (ixR p.rules k).bound, .slice ab (ixR p.rules k).body.length cb, .slice aw (ixR p.rules k).w.length cw] 54) = W1 at *
      have HBR := Lib.hid hbr
      have HS1 := Lib.hid hs1
      have HJ1 := Lib.hid hj1
      have HL1 := Lib.hid hl1'
      have hzr := hal.size
      have hzl := HLIM.out.size
      clear hal hbr hs1 hj1 hl1' hk0 hk1 hk2 hk3 hk4 hk5
      have hdr : Below W1.heap.size W1 W1.drew := (Below.refl _ _).drew
      have HDR := Lib.hid hdr
      have HSD := Lib.hid (HS1.out.on hdr)
      have hk1 := HBR.out.cell
      have hp1 := HS1.out.pb.cell
      have hq1 := HS1.out.sb.cell
      have HCA : Hid (∀ W2, Below W1.heap.size W1 W2 → Calls Tryz.prog 45 #[.slice ah (ixR p.rules k).head.length ch, .func (.func 78) #[] #[.pointer (some ⟨sb, 0, none⟩)]] W2 fun e w' => e = .returned (.bool (headIn S (ixR p.rules k))) ∧ Below W2.heap.size W2 w') :=
        Lib.hid (fun W2 h2 => ctn_sup _ (ixR p.rules k).head W2 (HSL.out.head.below (HS1.out.on h2).below) (fun j => decide (ix (ixR p.rules k).head j ∈ S)) _ (fun w' hb' j _ => (sup11_any S sb _ _ w' (((HS1.out.on h2).on hb').sb) (HS.out.below ((HS1.out.on h2).on hb').below)).mono fun e w'' ⟨e1, e2⟩ => ⟨e1, e2 ▸ Below.refl _ _⟩))
      have hki : InI (k : Int) := by unfold InI; omega
      have HLEN : Hid (pre.length < p.rules.length) := Lib.hid (by
        have h1 := supsTo_len p S k
        rw [← HPRE.out, suw_len] at h1
        omega)
      have HBI : Hid (InI (bodyI p k)) := Lib.hid (by have h1 : 1 ≤ bodyI p k ∧ bodyI p k ≤ 1000000 := (HOK.out k hlt).1.b; unfold InI; omega)
      have HX : Hid (SupIs wi (.agg #[.bool (ixR p.rules k).choice, .slice ah (ixR p.rules k).head.length ch, .bool (ixR p.rules k).sum, .int .i64 (ixR p.rules k).bound, .slice ab (ixR p.rules k).body.length cb, .slice aw (ixR p.rules k).w.length cw, .int .i64 (bodyI p k), .slice a4 S.length c4]) (supAt p S k)) := Lib.hid ⟨_, _, _, _, rfl, HSL.out, HS.out, HBI.out⟩
      cases hh : headIn S (ixR p.rules k) with
      | false =>
        have HST2 : Hid (supsTo p S (k + 1) = supsTo p S k) := Lib.hid (by rw [supsTo, hh]; rfl)
        rw [hh] at HCA
        clear hh hk1 hp1 hq1
        have kx := fun (e : Ext W1) (o : Nat) => (bcell e.below _ o HBR.out.lt).trans (HBR.out.cell o)
        refine wpIn_wide.2 ?_
        refine wp_region_ext (by kernel_rfl) (by kernel_rfl) ?_
        repeat (go_big_quiet_step ((go_at_call 45; exact Calls.ext_of (HCA.out _ (Ext.below _)))))
        refine wpQuiet_nil ?_
        intro w9 hw'
        obtain ⟨e9, he9⟩ := hw'
        have hb9 := e9.below
        rw [← he9] at hb9
        clear he9 e9
        try dsimp only
        have HB9 := Lib.hid hb9
        clear hb9
        gi_wp2
        first
          | (go_roundw
             case rel => (exact ⟨k + 1, pre, by omega, by go_num, by rw [HPRE.out, HST2.out], AbidesFrom.below HJ.out HJ1.out HB9.out, HL1.out.trans (.of_below HB9.out (by omega))⟩)
             case measure => (simp [intOf]; omega))
          | (refine ⟨?_, ?_⟩
             · (exact ⟨k + 1, pre, by omega, by go_num, by rw [HPRE.out, HST2.out], AbidesFrom.below HJ.out HJ1.out HB9.out, HL1.out.trans (.of_below HB9.out (by omega))⟩)
             · (simp [intOf]; omega))
      | true =>
        have HST2 : Hid (supsTo p S (k + 1) = supsTo p S k ++ [supAt p S k]) := Lib.hid (by rw [supsTo, hh]; rfl)
        have HC := Lib.hid (HCA.out _ hdr)
        rw [hh] at HC
        clear hh
        gi_region_with (first
          | (refine ⟨trivial, ?_⟩; gi_at_call 45; refine (callsIn_wide.2 HC.out).mono ?_; rintro e w1 ⟨rfl, hb1⟩; have HSE := Lib.hid (HSD.out.on hb1); have kp1 := HSE.out.pb.cell; have ks1 := HSE.out.sb.cell; have kr1 := (HBR.out.drew.below hb1).cell; have HB1 := Lib.hid hb1; clear hb1)
          | (refine ⟨trivial, ?_⟩; gi_at_call 19; refine (callsIn_wide.2 (body_any _ p _ (hP.out.below HSE.out.below) (k : Int) hki)).mono ?_; rintro e w2 ⟨rfl, hb2⟩; have HSF := Lib.hid (HSE.out.on hb2); have ks2 := HSF.out.sb.cell; have kr2 := ((HBR.out.drew.below HB1.out).below hb2).cell; have HB2 := Lib.hid (HDR.out.trans (bon HB1.out hb2)); have HJ2 := Lib.hid (AbidesFrom.below HJ.out HJ1.out HB2.out); clear hb2; obtain ⟨fn, tmps, assign, body, hy, hR⟩ := HY.out pre ⟨(_, supAt p S k), HX.out, HOK.out k hlt⟩ w2 HJ2.out HLEN.out; dsimp only at hy)
          | (refine hR.mono ?_; rintro e W3 h3; obtain ⟨bb, rfl, hbt, hbf⟩ := yieldEnd h3; have HBT := Lib.hid hbt; have HBF := Lib.hid hbf; clear hbt hbf h3))
        all_goals (cases bb with
          | false =>
            gi_wp2
            refine bodyPost_ret (results_none rfl _ _ _) rfl ?_
            exact ⟨⟨_, rfl⟩, .inr ⟨pre ++ [_], ⟨k + 1, hlt, by rw [suw_snoc, HPRE.out, HST2.out]⟩, HBF.out (by first | exact rfl | exact trivial)⟩⟩
          | true =>
            gi_wp2
            first
              | (go_roundw
                 case rel => (exact ⟨k + 1, pre ++ [_], hlt, by go_num, by rw [suw_snoc, HPRE.out, HST2.out], (HBT.out (by first | exact rfl | exact trivial)).1, (HL1.out.trans (.of_below HB2.out (by omega))).trans (HBT.out (by first | exact rfl | exact trivial)).2⟩)
                 case measure => (simp [intOf]; omega))
              | (refine ⟨?_, ?_⟩
                 · (exact ⟨k + 1, pre ++ [_], hlt, by go_num, by rw [suw_snoc, HPRE.out, HST2.out], (HBT.out (by first | exact rfl | exact trivial)).1, (HL1.out.trans (.of_below HB2.out (by omega))).trans (HBT.out (by first | exact rfl | exact trivial)).2⟩)
                 · (simp [intOf]; omega)))
    · gi_wp2
      go_end0
      obtain rfl : k = p.rules.length := by omega
      exact ⟨⟨_, rfl⟩, .inl ⟨pre, HPRE.out, HJR.out⟩⟩

end Go.Proofs.YtfhpfbakoiekpaaGreatDoor

/- A region that draws its order, in the body of a range over a function: what holds of it outside a round holds within. -/
namespace Go.Proofs.YtfhpfbakoiekpaaGreatDoor
open Go.RowKit

section
variable {P : Program} {ops : Array Oper} {Q : Exit → Act → World → Prop} {md : Region.Mode} {n : Nat}

theorem rows_wide {row : String} {args : Array Value} {w : World} {R : Value → World → Prop} (h : _root_.Go.Rows P row args w R) : RowsIn Fence.wide n P row args w R :=
  fun c cs _ => let ⟨v, w', r, s⟩ := h c cs; ⟨v, w', r, stepsIn_wide.2 s⟩

theorem oper_wide {o : Oper} (hd : noDefer o = true) {a : Act} {w : World} {K : Act → World → Prop} (h : o.wp P a w K Q) : o.wpIn Fence.wide n P a w K Q := by
  refine ⟨fun _ _ => trivial, ?_⟩
  rw [Oper.semAt_eq _ _ _ (noDefer_ne hd)]
  unfold Oper.wp at h
  generalize (execOp a.eval o).run P w = r at *
  cases r with
  | ok x w' =>
    cases x <;> simp only [Oper.upon] at h <;> simp only [Oper.uponIn]
    case value => exact h
    case skip => exact h
    case defer => exact h
    case enter => exact ⟨fun e => (Bool.noConfusion (show false = true from e)), callsIn_wide.2 h⟩
    case row => exact ⟨fun e => (Bool.noConfusion (show false = true from e)), rows_wide h⟩
    all_goals exact h.elim
  | halt x w' =>
    cases x <;> simp only [Oper.upon] at h <;> simp only [Oper.uponIn]
    case panic => exact h
    all_goals exact h.elim

theorem any_wide (hd : ops.all noDefer = true) (hQ : ¬ LetsOut Q) : ∀ (fuel : Nat) (listed : Array Bool) (a : Act) (w : World), wpAny P md ops Q fuel listed a w → wpAnyIn Fence.wide n P md ops Q fuel listed a w
  | 0, _, _, _, h => h
  | fuel + 1, listed, a, w, h => by
    refine ⟨h.1, fun i hi => ?_⟩
    have h2 := h.2 i hi
    unfold wpOp at h2
    unfold wpOpIn
    cases ho : ops[i]? with
    | none =>
      simp only [ho] at h2 ⊢
      exact any_wide hd hQ fuel _ _ _ h2
    | some o =>
      simp only [ho] at h2 ⊢
      have hdo : noDefer o = true := by
        obtain ⟨hi, rfl⟩ := Array.getElem?_eq_some_iff.1 ho
        exact (Array.all_eq_true.1 hd) i hi
      split at h2
      · rename_i hw
        rw [if_pos hw]
        exact Oper.wpIn_mono (fun a w h => any_wide hd hQ fuel _ a w h) (oper_wide hdo (h2.resolve_right fun h3 => hQ h3.2))
      · rename_i hw
        rw [if_neg hw]
        exact ⟨fun _ _ => trivial, any_wide hd hQ fuel _ _ _ h2⟩

/-- The tail's law in a round. -/
theorem wp_region_tailR {id r : Nat} {a : Act} {w : World} {l : List Oper} (k : Nat) (C' : World → Prop) (Φ : Nat → List Value → Value → Nat → Nat → World → Prop) (ism : Nat → Bool) (hm : P.follows .mixedOrders = true) (hd : l.toArray.all noDefer = true) (hB : chk l.toArray (masks l) = true) (hT : chkTail l (masks l) k ism = true)
    (hC : ∀ w', Below w.heap.size w w' → C' w')
    (hΦ : ∀ i args v lo hi w w', Φ i args v lo hi w → Below w.heap.size w w' → Φ i args v lo hi w')
    (h : walkP P l.toArray w (fun i w' => if lateB l (dm (masks l)) k i then C' w' else ∃ e : Ext w, w' = e.world) Φ ism (dm (masks l)) (tailW P l.toArray C' (fun e a w => e = .normal ∧ Q e a w) (l.drop k)) (l.take k) 0 a [] []) :
    (Code.region id l.toArray true).wpIn (Fence.wide.inRound r) n P Q a w := by
  have hNL : ¬ LetsOut (fun e a w => e = .normal ∧ Q e a w) := by
    intro h
    obtain ⟨_, _, h, _⟩ := h
    cases h
  refine Code.wpIn_mono (Q := fun e a w => e = .normal ∧ Q e a w) (fun e a w h => h.2) ?_
  refine wpIn_region_draw fun t => ops_inRound r rfl hd _ _ _ ?_
  simp only [Region.schedule, hm, Bool.true_or, if_true]
  refine wpAnyIn_sound _ t _ a _ (any_wide hd hNL _ _ _ _ ?_)
  refine any_tail (masks l) k C' Φ ism hB hT hC hΦ ?_
  refine walkP_cl (fun i w' hw' => ?_) _ 0 a [] [] h
  split at hw'
  · rename_i hl; rw [if_pos hl]; exact hw'
  · rename_i hl; rw [if_neg hl]; exact ⟨⟨w', hw'⟩, rfl⟩
end

end Go.Proofs.YtfhpfbakoiekpaaGreatDoor

/- loops.Make: what its loop keeps. -/
namespace Go.Proofs.YtfhpfbakoiekpaaGreatDoor
open Go.RowKit

theorem QRow.ownR {B : Nat} {w w' : World} {v : Value} {l : List Int} {row : Option Nat} (h : QRow B w v l) (hg : w.grownBy w' row) (hr : ∀ r, row = some r → ∃ o : Obj, w.heap[r]? = some o ∧ o.isCells = false) : QRow B w' v l := by
  rcases h.2 with ⟨rfl, e⟩ | ⟨g, off, cap, cur, rfl, hb, hgg, h1, h2, h3, h4⟩
  · exact ⟨h.1, .inl ⟨rfl, e⟩⟩
  · refine h.kept fun i _ hi e => hg.block i hi fun e2 => ?_
    simp only [Value.ownBlock, Option.some.injEq] at e
    subst e
    obtain ⟨o, ho, hc⟩ := hr _ e2.symm
    rw [hgg] at ho
    cases ho
    cases hc

theorem lt_lengthM : ∀ (l : List Int) (a b : Int), l.Pairwise (· < ·) → (∀ x ∈ l, a ≤ x ∧ x < b) → a ≤ b → (l.length : Int) ≤ b - a
  | [], a, b, _, _, h => by simp; omega
  | x :: l, a, b, h1, h2, h => by
    obtain ⟨h3, h4⟩ := List.pairwise_cons.1 h1
    have hx := h2 x (.head _)
    have := lt_lengthM l (x + 1) b h4 (fun y hy => ⟨by have := h3 y hy; omega, (h2 y (.tail _ hy)).2⟩) (by omega)
    simp only [List.length_cons]
    push_cast
    omega

theorem lits_leM {l : List Int} {n : Int} (h : orderedB l n = true) (hn : 0 ≤ n) : (l.length : Int) ≤ 2 * n + 2 := by
  have hp : (l.map litKey).Pairwise (· < ·) := by
    rw [List.pairwise_iff_getElem]
    intro i j hi hj hij
    simp only [List.length_map] at hi hj
    have := ordered_lt h j hj i hij
    simpa [ix, List.getD_eq_getElem?_getD, List.getElem?_eq_getElem hi, List.getElem?_eq_getElem hj] using this
  have := lt_lengthM (l.map litKey) 0 (2 * n + 2) hp (fun x hx => by
    obtain ⟨y, hy, rfl⟩ := List.mem_map.1 hx
    have := ordered_lit h hy
    unfold litKey
    split <;> omega) (by omega)
  simpa using this

theorem reasP_len (u : SU) (a : List Int) : (reasP u a).length ≤ u.r.body.length + 1 := by
  unfold reasP
  split
  · simp
  · split
    · simp
    · have h2 : (reas2 u a).length ≤ u.r.body.length + 1 := by
        unfold reas2
        split
        · simp
        · have := List.length_filter_le (fun l => !(intB u.S l || !offB a l)) u.r.body
          omega
      unfold reas1
      split
      · exact h2
      · split
        · simp
        · exact h2

/-- What the loop of Make keeps: the literals lie in the box behind w1's first new block. -/
def MkI (a : List Int) (x0 : Int) (w1 : World) (n6 : Nat) (sl : List SU) (W : World) : Prop :=
  ∃ v, Blk W (w1.heap.size + 1) [v] 23 ∧ QRow w1.heap.size W v ([x0] ++ reasAll a sl) ∧ Below w1.heap.size w1 W ∧ ([x0] ++ reasAll a sl).length ≤ 1 + 8003 * sl.length ∧ (∀ g, v.ownBlock = some g → g = w1.heap.size ∨ n6 ≤ g) ∧ n6 ≤ W.heap.size

theorem MkI.ownR {B n6 : Nat} {a : List Int} {x0 : Int} {w1 : World} (hB : w1.heap.size ≤ B) {wi : World} : OwnFrom B (fun (pre : List (SupW wi)) W => MkI a x0 w1 n6 (suw pre) W) := fun pre X Y row hs hg hrow => by
  have hr : ∀ r, row = some r → ∃ o : Obj, X.heap[r]? = some o ∧ o.isCells = false := fun r e => (hrow r e).2
  obtain ⟨v, h1, h2, h3, h4, h5, h6⟩ := hs
  exact ⟨v, blk_own _ _ _ () X Y row h1 hg hr, h2.ownR hg hr, h3.grown hg h3.size (fun k e => by have := (hrow k e).1; omega), h4, h5, Nat.le_trans h6 hg.size⟩

theorem MkI.on {n6 : Nat} {a : List Int} {x0 : Int} {w1 W W' : World} {sl : List SU} (h : MkI a x0 w1 n6 sl W) (hb : Below W.heap.size W W') : MkI a x0 w1 n6 sl W' :=
  let ⟨v, h1, h2, h3, h4, h5, h6⟩ := h; ⟨v, h1.below hb, h2.below hb, h3.trans (hb.mono h3.size), h4, h5, Nat.le_trans h6 hb.size⟩

theorem MkI.start {a : List Int} {x0 : Int} {w1 W6 : World} (hx : InI x0) (hb6 : Below (w1.heap.size + 1 + 1) ((w1.alloc (.cells #[.int .i64 x0] 3)).alloc (.cells #[.slice (some ⟨w1.heap.size, 0, none⟩) 1 1] 23)) W6) : MkI a x0 w1 W6.heap.size [] W6 := by
  have hb := (Blk.new w1 [.int .i64 x0] 3).alloc (.cells #[.slice (some ⟨w1.heap.size, 0, none⟩) 1 1] 23)
  have hz : ((w1.alloc (.cells #[.int .i64 x0] 3)).alloc (.cells #[.slice (some ⟨w1.heap.size, 0, none⟩) 1 1] 23)).heap.size = w1.heap.size + 1 + 1 := by simp
  rw [← hz] at hb6
  refine ⟨_, (Blk.new2 w1 _ [_] _).below hb6, QRow.below ⟨fitI fun x h => by obtain rfl := List.mem_singleton.1 (by simpa [reasAll] using h); exact hx, .inr ⟨w1.heap.size, 0, 1, _, by simp [reasAll], Nat.le_refl _, hb, by simp [reasAll], by unfold maxLen; omega, by simp, fun i hi => ?_⟩⟩ hb6, (bal (bal (Below.refl _ _) _) _).trans (hb6.mono (by omega)), by simp [reasAll], fun g e => .inl ?_, Nat.le_refl _⟩
  · simp [reasAll] at hi
    subst hi
    rfl
  · simpa [Value.ownBlock] using e.symm

def mkΦ (l : List Int) : Nat → List Value → Value → Nat → Nat → World → Prop := fun _ _ v _ _ w => Ints w v l ∧ ∃ a n c, v = .slice a n c

theorem mkΦ_later (l : List Int) : ∀ i args v lo hi w w', mkΦ l i args v lo hi w → Below w.heap.size w w' → mkΦ l i args v lo hi w' :=
  fun _ _ _ _ _ _ _ h hb => ⟨h.1.below hb, h.2⟩

/-- append of a whole slice, at the operation. -/
theorem wp_appendM {o : Oper} {a : Act} {w : World} {K : Act → World → Prop} {Q : Exit → Act → World → Prop} (s x : Operand)
    (ho : o.op = .call { callee := .builtin .append, args := #[s, x], argTypes := #[23, 23] }) (base : Nat) (v y : Value) (l m : List Int) (hs : a.eval s = v) (hx : a.eval x = y) (h : QRow base w v l) (hy : Ints w y m)
    (hlen : (l.length + m.length) * 8 ≤ 140737488351232) (hbase : base ≤ w.heap.size)
    (hK : ∀ v' w', QRow base w' v' (l ++ m) → w.grownBy w' v.ownBlock → (v'.ownBlock = v.ownBlock ∨ v'.ownBlock = some w.heap.size) → K (a.put o.dst v') w') : o.wp Tryz.prog a w K Q := by
  obtain ⟨v', w', hr, h2, h3, h4⟩ := run_appendQs base 23 o.type Tryz.underlying23 rfl w v l h y m hy hlen hbase
  unfold Oper.wp execOp
  simp only [ho, resolve, invoke, builtin, Sem.run_bind, Sem.run_pure, Result.andThen_ok, List.map_toArray, List.map_cons, List.map_nil, hs, hx, hr]
  exact hK v' w' h2 h3 h4

theorem keeps_row {B base : Nat} {W W' : World} {v : Value} {l : List Int} (hq : QRow base W v l) (hg : W.grownBy W' v.ownBlock) : KeepsFrom B W W' :=
  ⟨hg.size, fun k o _ hk hc => (hg.block k (Array.getElem?_eq_some_iff.1 hk).1 (fun e => by
    rcases hq.2 with ⟨rfl, _⟩ | ⟨g, off, cap, cur, rfl, _, hgg, _⟩
    · cases e
    · obtain rfl : k = g := Option.some.inj e
      rw [hgg] at hk
      cases hk
      cases hc)).trans hk⟩

/-- Behind the append and the store. -/
theorem MkI.push {a : List Int} {x0 : Int} {w1 W2 W3 : World} {n6 : Nat} {sl : List SU} {u : SU} {v v' : Value} (hb : Blk W2 (w1.heap.size + 1) [v] 23) (hq : QRow w1.heap.size W2 v ([x0] ++ reasAll a sl)) (hB : Below w1.heap.size w1 W2) (hlen : ([x0] ++ reasAll a sl).length ≤ 1 + 8003 * sl.length) (hown : ∀ g, v.ownBlock = some g → g = w1.heap.size ∨ n6 ≤ g) (hn : n6 ≤ W2.heap.size)
    (hu : u.r.body.length ≤ 8002) (hq3 : QRow w1.heap.size W3 v' (([x0] ++ reasAll a sl) ++ reasP u a)) (hg : W2.grownBy W3 v.ownBlock) (ho : v'.ownBlock = v.ownBlock ∨ v'.ownBlock = some W2.heap.size) :
    Blk W3 (w1.heap.size + 1) [v] 23 ∧ MkI a x0 w1 n6 (sl ++ [u]) (W3.setCell ⟨w1.heap.size + 1, 0, none⟩ v') ∧ Lim n6 [w1.heap.size, w1.heap.size + 1] W2 (W3.setCell ⟨w1.heap.size + 1, 0, none⟩ v') ∧ KeepsFrom n6 W2 (W3.setCell ⟨w1.heap.size + 1, 0, none⟩ v') := by
  have hb3 : Blk W3 (w1.heap.size + 1) [v] 23 := hb.same (hg.block _ hb.lt (fun e => (hq.far hb (by decide)) e.symm))
  refine ⟨hb3, ⟨v', by simpa using hb3.set 0 v', ?_, (hB.grown hg hB.size (fun k e => (hq.base e).1)).setCell (p := ⟨w1.heap.size + 1, 0, none⟩) (by show w1.heap.size ≤ w1.heap.size + 1; omega) _, ?_, fun g e => ?_, by rw [size_set]; exact Nat.le_trans hn hg.size⟩, ?_, (keeps_row hq hg).trans ((KeepsOthers.setCell _ _ _).from _)⟩
  · rw [reasAll_snoc, ← List.append_assoc]
    have hne : v'.ownBlock ≠ some (w1.heap.size + 1) := hq3.far hb3 (by decide)
    exact hq3.kept fun i _ _ e => Below.heap_setCell _ _ _ _ (fun e2 => hne (by rw [e, e2]))
  · rw [reasAll_snoc]
    have := reasP_len u a
    simp only [List.length_append, List.length_cons, List.length_nil] at *
    omega
  · rcases ho with h | h
    · exact hown g (h ▸ e)
    · rw [h] at e
      have := Option.some.inj e
      exact .inr (by omega)
  · refine Lim.trans ⟨hg.os, hg.tape, hg.output, hg.size, fun k hk hs => hg.block k (by omega) (fun e => ?_)⟩ (Lim.setCell _ (.inl (by simp)))
    simp only [List.mem_cons, List.not_mem_nil, or_false, not_or] at hs
    have := hown k e.symm
    omega

end Go.Proofs.YtfhpfbakoiekpaaGreatDoor

/- The reference's constraints are the program's: plain law. -/
namespace Go.Proofs.YtfhpfbakoiekpaaGreatDoor
open Go.RowKit

/-! ### The reference's constraints -/
theorem inc_mem {l : List Int} {n : Int} (h : increasingB l n = true) {x : Int} (hx : x ∈ l) : 1 ≤ x ∧ x ≤ n := by
  unfold increasingB at h
  rw [Bool.and_eq_true] at h
  have h2 := ordered_lit h.1 hx
  obtain ⟨k, hk, rfl⟩ := mem_ix.1 hx
  have h1 := allR_get h.2 k hk
  rw [decide_eq_true_eq] at h1
  omega

end Go.Proofs.YtfhpfbakoiekpaaGreatDoor
