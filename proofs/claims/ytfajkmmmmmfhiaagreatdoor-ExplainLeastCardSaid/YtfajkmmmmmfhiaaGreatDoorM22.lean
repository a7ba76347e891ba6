/- My texts Base, Pool, Ops, Plain1, QRow, LeastP, Fn, Lp9, Lp10, Rounds1, RoundsU, merged. -/
import Derived.Test.YtfajkmmmmmfhiaaGreatDoorProg
import Derived.WalkKit
import Derived.Lib.Hide
import Derived.Deep.QuietTactic
import Derived.BigQuiet
import Derived.Test.YtfajkmmmmmfhiaaGreatDoorM00
import Derived.WalkSpells
import Derived.Lib.SliceRun
import Derived.MapKept
import Derived.Maps.OwnSet
import Derived.Maps.OwnOps
import Derived.Test.YtfajkmmmmmfhiaaGreatDoorM02
import Derived.Test.YtfajkmmmmmfhiaaGreatDoorM20
import Derived.Test.YtfajkmmmmmfhiaaGreatDoorM01
import Derived.Deep.AppendLies
import Derived.Test.YtfajkmmmmmfhiaaGreatDoorM03
import Derived.Test.YtfajkmmmmmfhiaaGreatDoorM04
import Derived.Lib.Bytealg
import Derived.Test.YtfajkmmmmmfhiaaGreatDoorM05
import Derived.Test.YtfajkmmmmmfhiaaGreatDoorM06
import Derived.Deep.DeepCutAuto
import Derived.RangeFuncNested
import Derived.RangeFuncBound
import Derived.RangeFuncCalls
import Derived.RangeFuncLeaves
import Derived.OwnWalkIn
import Derived.TacticsInMore
import Derived.LoopNIn
import Derived.LoopIn
import Derived.Stop.RegionWithIn
import Derived.Shelf.Abstract
import Derived.Deep.OwnRows

namespace Go.Proofs.YtfajkmmmmmfhiaaGreatDoor
open Go.RowKit
theorem bfrozen {W w1 : World} (hb : Below W.heap.size W w1) : ∀ b o, b < W.heap.size → w1.frozen? ⟨b, o, none⟩ = W.frozen? ⟨b, o, none⟩ :=
  fun b o h => hb.frozen (p := ⟨b, o, none⟩) h
section
variable {κ κ' : Nat → Tg} {t s : Tg} {w w' : World} {H : Nat}
theorem Col.fresh {base E bytes n : Nat} {f : Nat → Value} {v : Value} (ho : Own1 base E bytes w v n f) (hk : ∀ i, base ≤ i → κ i = t) : Col κ t v := by
  intro g hg
  rcases ho.1.2 with ⟨rfl, _⟩ | ⟨g', cap, cur, rfl, hb, hgg, _⟩
  · cases hg
  · have : g' = g := by simpa [Value.ownBlock] using hg
    subst this
    exact hk _ hb
end
theorem infoR : (Tryz.prog.info? 60).map (fun i => (i.zero, i.size, i.bytes)) = some (some (.agg #[.bool false, .slice none 0 0, .bool false, .int .i64 0, .slice none 0 0, .slice none 0 0]), 6, 96) := by kernel_rfl
theorem increasing_ordered {l : List Int} {n : Int} (h : increasingB l n = true) : orderedB l n = true := by
  unfold increasingB at h; simp only [Bool.and_eq_true] at h; exact h.1
theorem alloc_at (w : World) (o : Obj) (i : Nat) : (w.alloc o).heap[i]? = if i = w.heap.size then some o else w.heap[i]? := by
  show (w.heap.push o)[i]? = _
  rw [Array.getElem?_push]
theorem stepU_len (U : Int → List (Int × Int)) (r : GR) (i : Nat) (a : Int) : ∀ k, (stepU U r i k a).length ≤ (U a).length + k
  | 0 => by simp [stepU]
  | k + 1 => by
    have := stepU_len U r i a k
    unfold stepU
    split
    · simp; omega
    · omega
theorem usesU_len (R : List GR) (a : Int) (B : Nat) (h : ∀ i, i < R.length → (ixR R i).body.length ≤ B) : ∀ m, m ≤ R.length → (usesU R m a).length ≤ m * B
  | 0, _ => by simp [usesU]
  | m + 1, hm => by
    have h1 := usesU_len R a B h m (by omega)
    have h2 := stepU_len (usesU R m) (ixR R m) m a (ixR R m).body.length
    have h3 := h m (by omega)
    unfold usesU
    rw [Nat.succ_mul]
    omega
section
variable {n : Int} {R : List GR}
theorem nodup_short : ∀ (n : Nat) (l : List Int), l.Nodup → (∀ x ∈ l, 1 ≤ x ∧ x ≤ n) → l.length ≤ n
  | 0, l, _, h => by
    cases l with
    | nil => simp
    | cons x l => have := h x (by simp); omega
  | n + 1, l, hd, h => by
    by_cases hm : ((n : Int) + 1) ∈ l
    · have h1 := List.length_erase_of_mem hm
      have h2 := nodup_short n (l.erase ((n : Int) + 1)) (hd.erase _) (fun x hx => by
        have h3 := (hd.mem_erase_iff.1 hx)
        have h4 := h x h3.2
        have h5 := h3.1
        omega)
      omega
    · have := nodup_short n l hd (fun x hx => by
        have h4 := h x hx
        have h5 : x ≠ (n : Int) + 1 := fun e => hm (e ▸ hx)
        omega)
      omega
theorem Lv.short {C l od nd : List Int} (h : Lv n R C l od nd) (hn : 0 ≤ n) : (C ++ l).length ≤ n.toNat := by
  exact nodup_short _ _ h.nodup (fun x hx => by have := h.range x hx; omega)
theorem lhsTo_nil (r : GR) : ∀ k, lhsTo [] r k = 0
  | 0 => rfl
  | k + 1 => by unfold lhsTo; rw [lhsTo_nil r k]; simp
theorem lhsTo_same {C C' : List Int} {r : GR} : ∀ k, (∀ j, j < k → (ix r.body j ∈ C ↔ ix r.body j ∈ C')) → lhsTo C r k = lhsTo C' r k
  | 0, _ => rfl
  | k + 1, h => by
    unfold lhsTo
    rw [lhsTo_same k (fun j hj => h j (by omega))]
    by_cases h1 : ix r.body k ∈ C
    · rw [if_pos h1, if_pos ((h k (by omega)).1 h1)]
    · rw [if_neg h1, if_neg (fun h2 => h1 ((h k (by omega)).2 h2))]
theorem sumAt_take_succ (i : Int) (l : List (Int × Int)) (q : Nat) (hq : q < l.length) : sumAt i (l.take (q + 1)) = sumAt i (l.take q) + if (l.getD q (0, 0)).1 = i then (l.getD q (0, 0)).2 else 0 := by
  rw [List.take_add_one, List.getElem?_eq_getElem hq, sumAt_append]
  simp [sumAt, List.getD_eq_getElem?_getD, List.getElem?_eq_getElem hq]
theorem Todo2.close {L : List Int} {j i : Nat} (h : Todo2 R L j (usesU R R.length (ix L j)).length i) : Todo R L (j + 1) i := by
  rcases h with ⟨q, h1, h2, _⟩ | h
  · omega
  · exact h
theorem Asked.pay {C l nd nd' : List Int} (hp : Paid R C nd) (hp' : Paid R (C ++ l) nd') (ha : Asked R (C ++ l) nd (fun _ => False)) : Asked R (C ++ l) nd' (Todo R l 0) := by
  intro i hi h0
  by_cases h1 : ix nd i ≤ 0
  · rcases ha i hi h1 with h2 | h2
    · exact .inl h2
    · exact h2.elim
  · right
    by_cases ht : Todo R l 0 i
    · exact ht
    · exfalso
      have e : lhs (C ++ l) (ixR R i) = lhs C (ixR R i) := lhsTo_same _ (fun k hk => by
        constructor
        · intro hm
          rcases List.mem_append.1 hm with hm | hm
          · exact hm
          · obtain ⟨j, hj, e2⟩ := List.mem_iff_getElem.1 hm
            exfalso
            refine ht ⟨j, Nat.zero_le _, hj, ((i : Int), wOf (ixR R i) k), ?_, rfl⟩
            have e3 : ix l j = ix (ixR R i).body k := by rw [← e2]; simp [ix, List.getD_eq_getElem?_getD, List.getElem?_eq_getElem hj]
            rw [e3]
            exact (usesU_mem _).2 ⟨i, k, hi, hk, rfl, rfl⟩
        · exact fun hm => List.mem_append_left _ hm)
      have := hp i hi
      have := hp' i hi
      omega
theorem posL_len (od : List Int) : ∀ k, (posL od k).length ≤ k
  | 0 => by simp [posL]
  | k + 1 => by have := posL_len od k; unfold posL; split <;> simp <;> omega
theorem posL_range (od : List Int) (k : Nat) : ∀ x ∈ posL od k, 1 ≤ x ∧ x ≤ k := fun x hx => by have := (posL_mem od x k).1 hx; omega
theorem posL_sorted (od : List Int) : ∀ k, (posL od k).Pairwise (· < ·)
  | 0 => by simp [posL]
  | k + 1 => by
    have ih := posL_sorted od k
    unfold posL
    split
    · refine List.pairwise_append.2 ⟨ih, by simp, fun a ha b hb => ?_⟩
      simp only [List.mem_singleton] at hb
      have := (posL_range od k a ha).2
      omega
    · exact ih
end
set_option maxHeartbeats 1000000 in
theorem idx_def1 (v : Value) (l : List Int) (w : World) (h : Ints w v l) (g : Nat → Bool) 
    (hg : ∀ w', Below w.heap.size w w' → ∀ j, j < l.length → Calls Tryz.prog 165 #[.int .i64 (ix l j)] w' fun e w'' => e = .returned (.bool (g j)) ∧ Below w'.heap.size w' w'') :
    Calls Tryz.prog 108 #[v, .func (.func 165) #[] #[]] w fun e w' => ∃ r, e = .returned (.int .i64 r) ∧ IxP l.length g r ∧ Below w.heap.size w w' := by
  obtain ⟨a1, c1, rfl, -, hl1, -, hcell⟩ := h.form
  have HG := Lib.hid hg
  clear h hg
  go_enter Tryz.func108, Tryz.ntmps108
  go_wp2
  go_loopw [8] (fun i wx => IxR l.length g w i wx) (fun i _ => l.length - (intOf i).toNat)
  case atStart => exact ⟨0, by omega, rfl, fun j hj => absurd hj (Nat.not_lt_zero _), Below.refl _ _⟩
  case round =>
    obtain ⟨k, hk, rfl, hall, hb⟩ := hrel
    have HA := Lib.hid hall
    clear hall
    by_cases hlt : k < l.length
    · obtain ⟨b, off, rfl, hbl, hc⟩ := hcell (by omega)
      have hk1 := (bcell hb _ _ hbl).trans (hc k hlt)
      clear hc hcell
      cases g1 : g k with
      | true =>
        have HK : Hid (_ = true) := Lib.hid g1
        have HC := Lib.hid (HG.out _ hb k hlt)
        rw [g1] at HC
        clear g1
        go_wp2_with (go_at_call 165; refine (HC.out).mono ?_; rintro e w1 ⟨rfl, hb1⟩)
        go_ret
        exact ⟨_, rfl, .inr ⟨k, hlt, rfl, HK.out, HA.out⟩, bon hb hb1⟩
      | false =>
        have HN := Lib.hid (lt_succ_all HA.out g1)
        have HC := Lib.hid (HG.out _ hb k hlt)
        rw [g1] at HC
        clear g1
        go_wp2_with (go_at_call 165; refine (HC.out).mono ?_; rintro e w1 ⟨rfl, hb1⟩)
        first
          | (go_roundw
             case rel => (exact ⟨k + 1, by omega, by go_num, HN.out, bon hb hb1⟩)
             case measure => (simp [intOf]; omega))
          | (refine ⟨?_, ?_⟩
             · (exact ⟨k + 1, by omega, by go_num, HN.out, bon hb hb1⟩)
             · (simp [intOf]; omega))
    · have HN : Hid (∀ j, j < l.length → g j = false) := Lib.hid (fun j hj => HA.out j (by omega))
      go_wp2
      go_ret
      exact ⟨_, rfl, .inl ⟨rfl, HN.out⟩, hb⟩
set_option maxHeartbeats 1000000 in
theorem ctn_def1 (v : Value) (l : List Int) (w : World) (h : Ints w v l) (g : Nat → Bool) 
    (hg : ∀ w', Below w.heap.size w w' → ∀ j, j < l.length → Calls Tryz.prog 165 #[.int .i64 (ix l j)] w' fun e w'' => e = .returned (.bool (g j)) ∧ Below w'.heap.size w' w'') :
    Calls Tryz.prog 76 #[v, .func (.func 165) #[] #[]] w fun e w' => e = .returned (.bool (anyR l.length g)) ∧ Below w.heap.size w w' := by
  have HI := Lib.hid (idx_def1 v l w h g  hg)
  obtain ⟨a1, c1, rfl, -⟩ := h.form
  clear h hg
  go_enter Tryz.func76, Tryz.ntmps76
  go_wp2_with (go_at_call 108; refine (HI.out).mono ?_; rintro e w1 ⟨r, rfl, hr, hb1⟩; have HR := Lib.hid hr; clear hr)
  go_ret
  exact ⟨ret_bool HR.out.any, hb1⟩
theorem neg_any (w : World) (x : Int) : Calls Tryz.prog 165 #[.int .i64 x] w fun e w' => e = .returned (.bool (decide (x < 0))) ∧ w = w' := by
  by_cases h : x < 0
  · go_enter Tryz.func165, Tryz.ntmps165
    go_wp2
    go_ret
    exact ⟨ret_bool (decide_eq_true h).symm, rfl⟩
  · go_enter Tryz.func165, Tryz.ntmps165
    go_wp2
    go_ret
    exact ⟨ret_bool (decide_eq_false (by omega)).symm, rfl⟩
set_option maxHeartbeats 1000000 in
theorem idxR_def (v : Value) (l : List GR) (w : World) (h : RulesIs w v l) (g : Nat → Bool) (cap : Value)
    (hg : ∀ w', Below w.heap.size w w' → ∀ j, j < l.length → ∀ u, RuleIs w' u (ixR l j) → Calls Tryz.prog 164 #[u, cap] w' fun e w'' => e = .returned (.bool (g j)) ∧ Below w'.heap.size w' w'') :
    Calls Tryz.prog 52 #[v, .func (.func 164) #[] #[cap]] w fun e w' => ∃ r, e = .returned (.int .i64 r) ∧ IxP l.length g r ∧ Below w.heap.size w w' := by
  obtain ⟨a1, c1, rfl, -, hl1, -, hcell⟩ := h.form
  have HG := Lib.hid hg
  clear h hg
  go_enter Tryz.func52, Tryz.ntmps52
  go_wp2
  go_loopw [8] (fun i wx => IxR l.length g w i wx) (fun i _ => l.length - (intOf i).toNat)
  case atStart => exact ⟨0, by omega, rfl, fun j hj => absurd hj (Nat.not_lt_zero _), Below.refl _ _⟩
  case round =>
    obtain ⟨k, hk, rfl, hall, hb⟩ := hrel
    have HA := Lib.hid hall
    clear hall
    by_cases hlt : k < l.length
    · obtain ⟨b, off, rfl, hbl, hc⟩ := hcell (by omega)
      obtain ⟨vh, vb, vw, ⟨k0, k1, k2, k3, k4, k5⟩, hsl⟩ := hc k hlt
      have hbr := hsl.below hb
      have hk0 := (bcell hb _ _ hbl).trans k0
      have hk1 := (bcell hb _ _ hbl).trans k1
      have hk2 := (bcell hb _ _ hbl).trans k2
      have hk3 := (bcell hb _ _ hbl).trans k3
      have hk4 := (bcell hb _ _ hbl).trans k4
      have hk5 := (bcell hb _ _ hbl).trans k5
      have HRU : Hid (RuleIs wr (.agg #[.bool (ixR l k).choice, vh, .bool (ixR l k).sum, .int .i64 (ixR l k).bound, vb, vw]) (ixR l k)) := Lib.hid ⟨vh, vb, vw, rfl, hbr⟩
      clear hc hcell k0 k1 k2 k3 k4 k5 hsl hbr
      cases g1 : g k with
      | true =>
        have HK : Hid (_ = true) := Lib.hid g1
        have HC := Lib.hid (HG.out _ hb k hlt _ HRU.out)
        rw [g1] at HC
        clear g1
        go_wp2_with (go_at_call 164; refine (HC.out).mono ?_; rintro e w1 ⟨rfl, hb1⟩)
        go_ret
        exact ⟨_, rfl, .inr ⟨k, hlt, rfl, HK.out, HA.out⟩, bon hb hb1⟩
      | false =>
        have HN := Lib.hid (lt_succ_all HA.out g1)
        have HC := Lib.hid (HG.out _ hb k hlt _ HRU.out)
        rw [g1] at HC
        clear g1
        go_wp2_with (go_at_call 164; refine (HC.out).mono ?_; rintro e w1 ⟨rfl, hb1⟩)
        first
          | (go_roundw
             case rel => (exact ⟨k + 1, by omega, by go_num, HN.out, bon hb hb1⟩)
             case measure => (simp [intOf]; omega))
          | (refine ⟨?_, ?_⟩
             · (exact ⟨k + 1, by omega, by go_num, HN.out, bon hb hb1⟩)
             · (simp [intOf]; omega))
    · have HN : Hid (∀ j, j < l.length → g j = false) := Lib.hid (fun j hj => HA.out j (by omega))
      go_wp2
      go_ret
      exact ⟨_, rfl, .inl ⟨rfl, HN.out⟩, hb⟩
set_option maxHeartbeats 1000000 in
theorem ctnR_def (v : Value) (l : List GR) (w : World) (h : RulesIs w v l) (g : Nat → Bool) (cap : Value)
    (hg : ∀ w', Below w.heap.size w w' → ∀ j, j < l.length → ∀ u, RuleIs w' u (ixR l j) → Calls Tryz.prog 164 #[u, cap] w' fun e w'' => e = .returned (.bool (g j)) ∧ Below w'.heap.size w' w'') :
    Calls Tryz.prog 97 #[v, .func (.func 164) #[] #[cap]] w fun e w' => e = .returned (.bool (anyR l.length g)) ∧ Below w.heap.size w w' := by
  have HI := Lib.hid (idxR_def v l w h g cap hg)
  obtain ⟨a1, c1, rfl, -⟩ := h.form
  clear h hg
  go_enter Tryz.func97, Tryz.ntmps97
  go_wp2_with (go_at_call 52; refine (HI.out).mono ?_; rintro e w1 ⟨r, rfl, hr, hb1⟩; have HR := Lib.hid hr; clear hr)
  go_ret
  exact ⟨ret_bool HR.out.any, hb1⟩
def defAt (n : Int) (r : GR) : Bool := decide (ruleE r n = 0) && !r.choice && decide (r.head.length ≤ 1) && !anyR r.body.length (fun j => decide (ix r.body j < 0))
set_option maxHeartbeats 1000000 in
theorem defAt_any (v : Value) (r : GR) (n : Int) (cb : Nat) (w : World) (h : RuleIs w v r) (hn : Blk w cb [.int .i64 n] 3) :
    Calls Tryz.prog 164 #[v, .pointer (some ⟨cb, 0, none⟩)] w fun e w' => e = .returned (.bool (!defAt n r)) ∧ Below w.heap.size w w' := by
  obtain ⟨vh, vb, vw, rfl, hsl⟩ := h
  have hal := bal (Below.refl w.heap.size w) (.cells #[.bool r.choice, vh, .bool r.sum, .int .i64 r.bound, vb, vw] 60)
  obtain ⟨a1, c1, rfl, -, hl1, -, -⟩ := hsl.head.form
  obtain ⟨a2, c2, rfl, -, hl2, -, -⟩ := hsl.body.form
  obtain ⟨a3, c3, rfl, -, hl3, -, -⟩ := hsl.wts.form
  have HR : Hid (RuleIs (w.alloc (.cells #[.bool r.choice, .slice a1 r.head.length c1, .bool r.sum, .int .i64 r.bound, .slice a2 r.body.length c2, .slice a3 r.w.length c3] 60)) (.agg #[.bool r.choice, .slice a1 r.head.length c1, .bool r.sum, .int .i64 r.bound, .slice a2 r.body.length c2, .slice a3 r.w.length c3]) r) := Lib.hid ⟨_, _, _, rfl, hsl.below hal⟩
  have HB := Lib.hid (hsl.body.below hal)
  have HBK := Lib.hid (Blk.new w [.bool r.choice, .slice a1 r.head.length c1, .bool r.sum, .int .i64 r.bound, .slice a2 r.body.length c2, .slice a3 r.w.length c3] 60)
  have hcn := hn.cell 0
  have hcz := hn.lt
  have HU : Hid (defAt n r = (decide (ruleE r n = 0) && !r.choice && decide (r.head.length ≤ 1) && !anyR r.body.length (fun j => decide (ix r.body j < 0)))) := Lib.hid rfl
  clear hsl hn
  by_cases h1 : ruleE r n = 0
  · have h1' : (ruleE r n != 0) = false := by simp [h1]
    have H1 := Lib.hid h1
    cases h2 : r.choice with
    | true =>
      have HF : Hid (defAt n r = false) := Lib.hid (by rw [HU.out, h2]; simp)
      rw [h2] at HR HBK HB hal
      clear h1
      go_enter Tryz.func164, Tryz.ntmps164
      go_wp2_with (first | (go_at_call 76; (with_reducible refine (ctn_def1 _ _ _ (HB.out.below hb1) (fun j => decide (ix r.body j < 0)) (fun w' _ j _ => (neg_any w' _).mono fun e w'' ⟨e1, e2⟩ => ⟨e1, e2 ▸ Below.refl _ _⟩)).mono ?_); rintro e w2 ⟨rfl, hb2⟩) | (go_at_call 72; (with_reducible refine (rule_any _ r n _ HR.out).mono ?_); rintro e w1 ⟨rfl, hb1⟩; have hc1 := bcell hb1; have kk := fun o => (hc1 w.heap.size o (by simp)).trans (HBK.out.cell o)))
      go_ret
      exact ⟨ret_bool (by rw [HF.out]; rfl), bon hal hb1⟩
    | false =>
      rw [h2] at HR HBK HB hal
      by_cases h3 : r.head.length ≤ 1
      · have HF : Hid (defAt n r = !anyR r.body.length (fun j => decide (ix r.body j < 0))) := Lib.hid (by rw [HU.out, h2, decide_eq_true h1, decide_eq_true h3]; simp)
        clear h1
        go_enter Tryz.func164, Tryz.ntmps164
        go_wp2_with (first | (go_at_call 76; (with_reducible refine (ctn_def1 _ _ _ (HB.out.below hb1) (fun j => decide (ix r.body j < 0)) (fun w' _ j _ => (neg_any w' _).mono fun e w'' ⟨e1, e2⟩ => ⟨e1, e2 ▸ Below.refl _ _⟩)).mono ?_); rintro e w2 ⟨rfl, hb2⟩) | (go_at_call 72; (with_reducible refine (rule_any _ r n _ HR.out).mono ?_); rintro e w1 ⟨rfl, hb1⟩; have hc1 := bcell hb1; have kk := fun o => (hc1 w.heap.size o (by simp)).trans (HBK.out.cell o)))
        go_ret
        exact ⟨ret_bool (by rw [HF.out, Bool.not_not, decide_eq_false (by omega), Bool.false_or]), bon (bon hal hb1) hb2⟩
      · have HF : Hid (defAt n r = false) := Lib.hid (by rw [HU.out, decide_eq_false h3]; simp)
        clear h1
        go_enter Tryz.func164, Tryz.ntmps164
        go_wp2_with (first | (go_at_call 76; (with_reducible refine (ctn_def1 _ _ _ (HB.out.below hb1) (fun j => decide (ix r.body j < 0)) (fun w' _ j _ => (neg_any w' _).mono fun e w'' ⟨e1, e2⟩ => ⟨e1, e2 ▸ Below.refl _ _⟩)).mono ?_); rintro e w2 ⟨rfl, hb2⟩) | (go_at_call 72; (with_reducible refine (rule_any _ r n _ HR.out).mono ?_); rintro e w1 ⟨rfl, hb1⟩; have hc1 := bcell hb1; have kk := fun o => (hc1 w.heap.size o (by simp)).trans (HBK.out.cell o)))
        go_ret
        exact ⟨ret_bool (by rw [HF.out]; rfl), bon hal hb1⟩
  · have h1' : (ruleE r n != 0) = true := by simp [h1]
    have HF : Hid (defAt n r = false) := Lib.hid (by rw [HU.out, decide_eq_false h1]; simp)
    clear h1
    go_enter Tryz.func164, Tryz.ntmps164
    go_wp2_with (first | (go_at_call 76; (with_reducible refine (ctn_def1 _ _ _ (HB.out.below hb1) (fun j => decide (ix r.body j < 0)) (fun w' _ j _ => (neg_any w' _).mono fun e w'' ⟨e1, e2⟩ => ⟨e1, e2 ▸ Below.refl _ _⟩)).mono ?_); rintro e w2 ⟨rfl, hb2⟩) | (go_at_call 72; (with_reducible refine (rule_any _ r n _ HR.out).mono ?_); rintro e w1 ⟨rfl, hb1⟩; have hc1 := bcell hb1; have kk := fun o => (hc1 w.heap.size o (by simp)).trans (HBK.out.cell o)))
    go_ret
    exact ⟨ret_bool (by rw [HF.out]; rfl), bon hal hb1⟩
def definiteB (n : Int) (R : List GR) : Bool := decide (0 ≤ n ∧ n ≤ 4000 ∧ R.length ≤ 40000) && allR R.length (fun i => defAt n (ixR R i))
theorem definite_neg (n : Int) (R : List GR) (h : 0 ≤ n ∧ n ≤ 4000 ∧ R.length ≤ 40000) : (!anyR R.length fun i => !defAt n (ixR R i)) = definiteB n R := by
  unfold definiteB anyR allR
  rw [decide_eq_true h, Bool.true_and]
  induction List.range R.length with
  | nil => rfl
  | cons x l ih => simp only [List.any_cons, List.all_cons, Bool.not_or, ih, Bool.not_not]
set_option maxHeartbeats 1000000 in
theorem definite_any (v : Value) (R : List GR) (n : Int) (w : World) (h : RulesIs w v R) :
    Calls Tryz.prog 131 #[.int .i64 n, v] w fun e w' => e = .returned (.bool (definiteB n R)) ∧ Below w.heap.size w w' := by
  have hal := bal (Below.refl w.heap.size w) (.cells #[.int .i64 n] 3)
  obtain ⟨a1, c1, rfl, -, hl1, -⟩ := h.form
  have HR := Lib.hid (h.below hal)
  have HBK := Lib.hid (Blk.new w [.int .i64 n] 3)
  clear h
  by_cases h1 : n < 0
  · have HF : Hid (definiteB n R = false) := Lib.hid (by unfold definiteB; rw [decide_eq_false (by omega)]; rfl)
    go_enter Tryz.func131, Tryz.ntmps131
    go_wp2
    go_ret
    exact ⟨ret_bool HF.out.symm, hal⟩
  · by_cases h2 : 4000 < n
    · have HF : Hid (definiteB n R = false) := Lib.hid (by unfold definiteB; rw [decide_eq_false (by omega)]; rfl)
      go_enter Tryz.func131, Tryz.ntmps131
      go_wp2
      go_ret
      exact ⟨ret_bool HF.out.symm, hal⟩
    · by_cases h3 : (40000 : Int) < R.length
      · have HF : Hid (definiteB n R = false) := Lib.hid (by unfold definiteB; rw [decide_eq_false (by omega)]; rfl)
        go_enter Tryz.func131, Tryz.ntmps131
        go_wp2
        go_ret
        exact ⟨ret_bool HF.out.symm, hal⟩
      · have HF := Lib.hid (definite_neg n R (by omega))
        go_enter Tryz.func131, Tryz.ntmps131
        go_wp2_with (go_at_call 97; (with_reducible refine (ctnR_def _ R _ HR.out (fun i => !defAt n (ixR R i)) _ (fun w' hb j _ u hu => defAt_any u _ n _ w' hu (HBK.out.below hb))).mono ?_); rintro e w1 ⟨rfl, hb1⟩)
        go_ret
        exact ⟨ret_bool HF.out, bon hal hb1⟩
theorem lits_le {l : List Int} {n : Int} (h : orderedB l n = true) (hn : 0 ≤ n) : (l.length : Int) ≤ 2 * n + 2 := by
  have hp : (l.map litKey).Pairwise (· < ·) := by
    rw [List.pairwise_iff_getElem]
    intro i j hi hj hij
    simp only [List.length_map] at hi hj
    have := ordered_lt h j hj i hij
    simpa [ix, List.getD_eq_getElem?_getD, List.getElem?_eq_getElem hi, List.getElem?_eq_getElem hj] using this
  have := lt_length (l.map litKey) 0 (2 * n + 2) hp (fun x hx => by
    obtain ⟨y, hy, rfl⟩ := List.mem_map.1 hx
    have := ordered_lit h hy
    unfold litKey
    split <;> omega) (by omega)
  simpa using this
theorem definiteB_spec {n : Int} {R : List GR} (h : definiteB n R = true) : DefR n R := by
  unfold definiteB at h
  simp only [Bool.and_eq_true, decide_eq_true_eq] at h
  obtain ⟨⟨h1, h2, h3⟩, h4⟩ := h
  have h5 := fun i (hi : i < R.length) => allR_get h4 i hi
  have h6 : ∀ i, i < R.length → ruleE (ixR R i) n = 0 ∧ (ixR R i).head.length ≤ 1 ∧ ∀ j, j < (ixR R i).body.length → 0 ≤ ix (ixR R i).body j := fun i hi => by
    have := h5 i hi
    simp only [defAt, Bool.and_eq_true, decide_eq_true_eq, Bool.not_eq_true'] at this
    obtain ⟨⟨⟨a1, a2⟩, a3⟩, a4⟩ := this
    refine ⟨a1, a3, fun j hj => ?_⟩
    by_cases h0 : ix (ixR R i).body j < 0
    · rw [anyR_true j hj (by simp [h0])] at a4; cases a4
    · omega
  have h7 : ∀ i, i < R.length → increasingB (ixR R i).head n = true ∧ orderedB (ixR R i).body n = true ∧ ((ixR R i).sum = true → weightsB (ixR R i).w (ixR R i).body.length = true ∧ 0 ≤ (ixR R i).bound ∧ (ixR R i).bound ≤ 1048576) := fun i hi => by
    have h8 := (h6 i hi).1
    unfold ruleE at h8
    grind
  refine ⟨⟨h1, h2⟩, h3, fun i hi => ⟨(h6 i hi).2.1, fun x hx => ?_⟩, fun i hi => ⟨fun k hk => ?_, ?_⟩, fun i hi hs => ?_, fun i hi hs => ((h7 i hi).2.2 hs).2⟩
  · have h8 := (h7 i hi).1
    have h9 := ordered_lit (increasing_ordered h8) hx
    unfold increasingB at h8
    simp only [Bool.and_eq_true] at h8
    obtain ⟨k, hk, rfl⟩ : ∃ k, k < (ixR R i).head.length ∧ x = ix (ixR R i).head k := by
      obtain ⟨k, hk, e⟩ := List.mem_iff_getElem.1 hx
      exact ⟨k, hk, by simp [ix, List.getD_eq_getElem?_getD, List.getElem?_eq_getElem hk, e]⟩
    have := allR_get h8.2 k hk
    simp only [decide_eq_true_eq] at this
    omega
  · have h8 := (h6 i hi).2.2 k hk
    have h9 := ordered_lit (h7 i hi).2.1 (show ix (ixR R i).body k ∈ (ixR R i).body from by simp [ix, List.getD_eq_getElem?_getD, List.getElem?_eq_getElem hk])
    omega
  · have := lits_le (h7 i hi).2.1 h1
    omega
  · have h8 := ((h7 i hi).2.2 hs).1
    unfold weightsB at h8
    simp only [Bool.and_eq_true, decide_eq_true_eq] at h8
    refine ⟨by omega, fun k hk => ?_⟩
    have := allR_get h8.1 k hk
    simpa using this
end Go.Proofs.YtfajkmmmmmfhiaaGreatDoor
namespace Go.Proofs.YtfajkmmmmmfhiaaGreatDoor
open Go.RowKit Go.Shelf
attribute [local go_sem] Oper.semAt_some
theorem blk_own {β : Type} (b : Nat) (c : List Value) (t : TypeId) : Own (fun (_ : β) W => Blk W b c t) := fun s X Y row hs hg hrow => by
  have hne : some b ≠ row := fun e' => by
    obtain ⟨_, ho, hc⟩ := hrow b e'.symm
    rw [show X.heap[b]? = _ from hs] at ho
    cases ho
    cases hc
  exact hs.same (hg.block b hs.lt hne)
end Go.Proofs.YtfajkmmmmmfhiaaGreatDoor
namespace Go.Proofs.YtfajkmmmmmfhiaaGreatDoor
open Go.RowKit
theorem rule_bound {r : GR} {n : Int} (h : ruleE r n = 0) : 0 ≤ r.bound ∧ r.bound ≤ 1048576 := by
  unfold ruleE at h
  grind
theorem inc_pos {l : List Int} {n : Int} (h : increasingB l n = true) {j : Nat} (hj : j < l.length) : 0 < ix l j ∧ ix l j ≤ n := by
  have h1 := ordered_lit (increasing_ordered h) (ix_mem hj)
  unfold increasingB at h
  simp only [Bool.and_eq_true] at h
  have h2 := allR_get h.2 j hj
  simp only [decide_eq_true_eq] at h2
  omega
attribute [local go_sem] memUpon
section
variable {R : List GR} {n : Int} {w w1 wx w' : World} {nb ob b9 b6 b3 b8 : Nat} {ar : Option Addr} {cr : Nat} {nd od l : List Int}
theorem mapI_at (l : List Int) (i : Nat) (hi : i < l.length) : (l.map (Value.int .i64))[i]? = some (.int .i64 (ix l i)) := by
  simp [ix, List.getD_eq_getElem?_getD, List.getElem?_eq_getElem hi]
theorem RSt.setOut (h : RSt w1 nb ob b9 nd od l wx) (hne : nb ≠ ob ∧ ob ≠ b9) (hlt : ob < w1.heap.size) (i : Nat) (v : Int) : RSt w1 nb ob b9 nd (od.set i v) l (wx.setCell ⟨ob, i, none⟩ (.int .i64 v)) := by
  obtain ⟨an, cn, h1, h2⟩ := h.now
  refine ⟨h.lim.trans (.setCell _ (.inl (by simp))), h.need.setOther _ _ hne.1, by rw [← mapI_setL]; exact h.out.set _ _, an, cn, h1.setOther _ _ (fun e => hne.2 e.symm), h2.kept fun j hj _ _ => Below.heap_setCell _ _ _ _ (show j ≠ ob by omega)⟩
theorem RSt.setNeed (h : RSt w1 nb ob b9 nd od l wx) (hne : nb ≠ ob ∧ nb ≠ b9) (hlt : nb < w1.heap.size) (i : Nat) (v : Int) : RSt w1 nb ob b9 (nd.set i v) od l (wx.setCell ⟨nb, i, none⟩ (.int .i64 v)) := by
  obtain ⟨an, cn, h1, h2⟩ := h.now
  refine ⟨h.lim.trans (.setCell _ (.inl (by simp))), by rw [← mapI_setL]; exact h.need.set _ _, h.out.setOther _ _ (fun e => hne.1 e.symm), an, cn, h1.setOther _ _ (fun e => hne.2 e.symm), h2.kept fun j hj _ _ => Below.heap_setCell _ _ _ _ (show j ≠ nb by omega)⟩
def app2Φ (x : Int) : Nat → List Value → Value → Nat → Nat → World → Prop
  | _, _, v, lo, hi, w => v = .slice (some ⟨lo, 0, none⟩) 1 1 ∧ lo < hi ∧ Blk w lo [.int .i64 x] 3
theorem app2Φ_later (x : Int) : ∀ i args v lo hi w w', app2Φ x i args v lo hi w → Below w.heap.size w w' → app2Φ x i args v lo hi w' := by
  intro i args v lo hi w w' h hb
  obtain ⟨e, hl, h⟩ := h
  exact ⟨e, hl, h.below hb⟩
set_option maxHeartbeats 4000000 in
set_option maxRecDepth 100000 in
theorem reach_any (hd : DefR n R) (hf : RFx R n w w1 nb ob b9 b6 b3 b8 ar cr) (h : RSt w1 nb ob b9 nd od l wx) (hnl : nd.length = R.length) (hol : (od.length : Int) = n) (hll : l.length ≤ 4000) (i : Nat) (hi : i < R.length) (round : Int) :
    Calls Tryz.prog 132 #[.int .i64 i, .int .i64 round, .pointer (some ⟨b6, 0, none⟩), .pointer (some ⟨b3, 0, none⟩), .pointer (some ⟨b8, 0, none⟩), .pointer (some ⟨b9, 0, none⟩)] wx fun e w' =>
      e = .returned (.tuple #[]) ∧ ∃ od' l', RSt w1 nb ob b9 nd od' l' w' ∧ ReachP R nd i round od l od' l' := by
  obtain ⟨h6, h8, h3, hbw⟩ := hf.at h
  obtain ⟨a1, c1, e1, -, hl1, -, hcell⟩ := hf.rules.form
  simp only [Value.slice.injEq, true_and] at e1
  obtain ⟨rfl, rfl⟩ := e1
  obtain ⟨b, off, rfl, hbl, hc⟩ := hcell (by omega)
  obtain ⟨vh, vb, vw, ⟨-, q1, -⟩, hsl⟩ := hc i hi
  obtain ⟨a3, c3, rfl, -, hl3, -, hcell3⟩ := hsl.head.form
  have hhd := hd.head i hi
  have hrng := hd.rng
  have hlen := hd.len
  have hi' : i < nd.length := by omega
  have HKR : Hid (∀ w', Below w.heap.size w w' → w'.cell? ⟨b, off + i * 6 + 1, none⟩ = some (.slice a3 (ixR R i).head.length c3)) := Lib.hid (fun w' hb => (bcell hb _ _ hbl).trans q1)
  have k6 : ∀ e : Ext wx, e.world.cell? ⟨b6, 0, none⟩ = some (.slice (some ⟨nb, 0, none⟩) R.length R.length) := fun e => (bcell e.below _ _ h6.lt).trans (h6.cell 0)
  have k8 : ∀ e : Ext wx, e.world.cell? ⟨b8, 0, none⟩ = some (.slice (some ⟨ob, 0, none⟩) n.toNat n.toNat) := fun e => (bcell e.below _ _ h8.lt).trans (h8.cell 0)
  have k3 : ∀ e : Ext wx, e.world.cell? ⟨b3, 0, none⟩ = some (.slice (some ⟨b, off, none⟩) R.length cr) := fun e => (bcell e.below _ _ h3.lt).trans (h3.cell 0)
  have kn : ∀ e : Ext wx, e.world.cell? ⟨nb, i, none⟩ = some (.int .i64 (ix nd i)) := fun e => (bcell e.below _ _ h.need.lt).trans ((h.need.cell i).trans (mapI_at nd i hi'))
  have kr : ∀ e : Ext wx, e.world.cell? ⟨b, off + i * 6 + 1, none⟩ = some (.slice a3 (ixR R i).head.length c3) := fun e => HKR.out _ (bon hbw e.below)
  have HS := Lib.hid h
  have HF := Lib.hid hf
  have HHD := Lib.hid hhd.2
  have HBW := Lib.hid hbw
  have hh1 := hhd.1
  have HB6 := Lib.hid h6
  have HB8 := Lib.hid h8
  have HB3 := Lib.hid h3
  clear hhd hsl hc q1 hf h h6 h8 h3 hbw
  by_cases c1' : ix nd i ≤ 0
  · by_cases c2 : (ixR R i).head.length = 0
    · have HE : Hid ((ixR R i).head = []) := Lib.hid (List.eq_nil_of_length_eq_zero c2)
      have HC := Lib.hid hcell3
      clear hcell3
      go_enter Tryz.func132, Tryz.ntmps132
      go_wp2
      refine wp_region_ext (by kernel_rfl) (by kernel_rfl) ?_
      repeat (go_big_quiet_step (fail))
      refine wpQuiet_nil ?_
      intro w9 hw'
      obtain ⟨e9, he9⟩ := hw'
      have hb9 := e9.below
      rw [← he9] at hb9
      clear he9 e9
      try dsimp only
      go_wp2
      refine bodyPost_end (v := .tuple #[]) ?_ rfl ?_
      · simp [results, Tryz.results132, go_sem]
      · exact ⟨rfl, od, l, HS.out.on hb9, .inl ⟨rfl, rfl, fun _ x hx => by rw [HE.out] at hx; simp at hx⟩⟩
    · obtain ⟨x, hx⟩ : ∃ x, (ixR R i).head = [x] := by
        match hh : (ixR R i).head, hh1, c2 with
        | [], _, h => exact absurd rfl h
        | [x], _, _ => exact ⟨x, rfl⟩
        | x :: y :: t, h, _ => simp at h
      have hx1 := HHD.out x (by rw [hx]; simp)
      obtain ⟨m, rfl⟩ : ∃ m : Nat, x = (m : Int) + 1 := ⟨(x - 1).toNat, by omega⟩
      obtain ⟨bh, offh, rfl, hbh, hch⟩ := hcell3 (by omega)
      have kx : ∀ e : Ext wx, e.world.cell? ⟨bh, offh, none⟩ = some (.int .i64 ((m : Int) + 1)) := fun e => (bcell (bon HBW.out e.below) _ _ hbh).trans ((hch 0 (by omega)).trans (by rw [hx]; rfl))
      have HKX : Hid (∀ w', Below w.heap.size w w' → w'.cell? ⟨bh, offh, none⟩ = some (.int .i64 ((m : Int) + 1))) := Lib.hid (fun w' hb => (bcell hb _ _ hbh).trans ((hch 0 (by omega)).trans (by rw [hx]; rfl)))
      have hml : m < n.toNat := by omega
      have hmo : m < od.length := by omega
      have kod : ∀ e : Ext wx, e.world.cell? ⟨ob, m, none⟩ = some (.int .i64 (ix od m)) := fun e => (bcell e.below _ _ HS.out.out.lt).trans ((HS.out.out.cell m).trans (mapI_at od m hmo))
      have HX := Lib.hid hx
      have hlen1 : (ixR R i).head.length = 1 := by rw [hx]; rfl
      have hmm : ((m : Int) + 1 - 1).toNat = m := by omega
      have HMM := Lib.hid hmm
      have hwm : IntKind.i64.wrap ((m : Int) + 1 - 1) = (m : Int) := by rw [IntKind.wrap_i64]; omega
      clear hx hx1 hch hmm hh1 c2
      by_cases ho : ix od m = 0
      · have HO := Lib.hid ho
        have HR0 : Hid (InI ((m : Int) + 1)) := Lib.hid (by unfold InI; omega)
        go_enter Tryz.func132, Tryz.ntmps132
        go_wp2
        refine wp_region_ext (by kernel_rfl) (by kernel_rfl) ?_
        repeat (go_big_quiet_step (fail))
        refine wpQuiet_nil ?_
        intro w9 hw'
        obtain ⟨e9, he9⟩ := hw'
        have hb9 := e9.below
        rw [← he9] at hb9
        clear he9 e9
        try dsimp only
        have hs9 := HS.out.on hb9
        obtain ⟨g6, g8, g3, gbw⟩ := HF.out.at hs9
        have HS9 := Lib.hid hs9
        have HG9 := Lib.hid gbw
        clear k6 k8 k3 kn kr kx kod
        have k8 : ∀ e : Ext w9, e.world.cell? ⟨b8, 0, none⟩ = some (.slice (some ⟨ob, 0, none⟩) n.toNat n.toNat) := fun e => (bcell e.below _ _ g8.lt).trans (g8.cell 0)
        have k3 : ∀ e : Ext w9, e.world.cell? ⟨b3, 0, none⟩ = some (.slice (some ⟨b, off, none⟩) R.length cr) := fun e => (bcell e.below _ _ g3.lt).trans (g3.cell 0)
        have kr : ∀ e : Ext w9, e.world.cell? ⟨b, off + i * 6 + 1, none⟩ = some (.slice (some ⟨bh, offh, none⟩) (ixR R i).head.length c3) := fun e => HKR.out _ (bon HG9.out e.below)
        have kx : ∀ e : Ext w9, e.world.cell? ⟨bh, offh, none⟩ = some (.int .i64 ((m : Int) + 1)) := fun e => HKX.out _ (bon HG9.out e.below)
        clear hs9 gbw g6 g8 g3 hb9
        go_upto_region 1 with fail
        refine wp_region_tail' 11 (fun _ => True) (fun _ _ _ _ _ _ => False) (fun _ => false) (by kernel_rfl) (by kernel_rfl) (by kernel_rfl) (fun _ _ => trivial) (fun _ _ _ _ _ _ _ h _ => h) ?_
        simp only [List.take_succ_cons, List.take_zero, List.drop_succ_cons, List.drop_zero]
        iterate 11 (refine walkP_head (by kernel_rfl) rfl rfl rfl (fun K hK => ?_); go_big_quiet_op; refine hK _ ?_; clear hK K)
        intro wy hby hF hI hP
        clear hF hI hP
        have hsy := HS9.out.on hby
        have ky : wy.cell? ⟨ob, m, none⟩ = some (.int .i64 (ix od m)) := (hsy.out.cell m).trans (mapI_at od m hmo)
        have fy := hsy.out.free m
        have HSY := Lib.hid (hsy.setOut ⟨HF.out.ne.1, HF.out.ne.2.2.1⟩ HF.out.lt.2.1 m round)
        clear hsy hby
        refine ⟨rfl, rfl, ?_⟩
        go_simp
        simp only [tailW]
        clear ky fy k8 k3 kr kx
        generalize wy.setCell ⟨ob, m, none⟩ (.int .i64 round) = W2 at *
        go_upto_region 2 with fail
        obtain ⟨g6, g8, g3, gbw⟩ := HF.out.at HSY.out
        obtain ⟨an, cn, hbn, hqn⟩ := HSY.out.now
        have HG2 := Lib.hid gbw
        have k9 : ∀ e : Ext W2, e.world.cell? ⟨b9, 0, none⟩ = some (.slice an l.length cn) := fun e => (bcell e.below _ _ hbn.lt).trans (hbn.cell 0)
        have k3 : ∀ e : Ext W2, e.world.cell? ⟨b3, 0, none⟩ = some (.slice (some ⟨b, off, none⟩) R.length cr) := fun e => (bcell e.below _ _ g3.lt).trans (g3.cell 0)
        have kr : ∀ e : Ext W2, e.world.cell? ⟨b, off + i * 6 + 1, none⟩ = some (.slice (some ⟨bh, offh, none⟩) (ixR R i).head.length c3) := fun e => HKR.out _ (bon HG2.out e.below)
        have kx : ∀ e : Ext W2, e.world.cell? ⟨bh, offh, none⟩ = some (.int .i64 ((m : Int) + 1)) := fun e => HKX.out _ (bon HG2.out e.below)
        have HBN := Lib.hid hbn
        have HQN := Lib.hid hqn
        clear g6 g8 g3 gbw hbn hqn
        refine wp_region_tail' 9 (fun _ => True) (app2Φ ((m : Int) + 1)) (fun i => i == 8) (by kernel_rfl) (by kernel_rfl) (by kernel_rfl) (fun _ _ => trivial) (app2Φ_later _) ?_
        simp only [List.take_succ_cons, List.take_zero, List.drop_succ_cons, List.drop_zero]
        iterate 8 (refine walkP_head (by kernel_rfl) rfl rfl rfl (fun K hK => ?_); go_big_quiet_op; refine hK _ ?_; clear hK K)
        refine walkP_mem rfl rfl (fun wa hba hFa => ?_) (fun v8 lo8 hi8 l8 g8 h8 => ?_)
        · go_simp
          exact ⟨bal (Below.refl _ _) _, rfl, by simp, Blk.new _ [.int .i64 ((m : Int) + 1)] _⟩
        obtain ⟨_, rfl, -, -⟩ := h8
        simp only [Act.put, List.setIfInBounds_toArray, List.set_cons_succ, List.set_cons_zero]
        intro wy2 hby2 hF hI hP
        obtain ⟨-, -, F8⟩ := hF _ (.head _)
        clear hF hI hP
        have hsy := HSY.out.on hby2
        have hbn := HBN.out.below hby2
        have hqn := HQN.out.kept (w' := wy2) (fun i _ hi _ => hby2.block i hi)
        have HSZ := Lib.hid hsy
        have HBZ := Lib.hid hbn
        have HQZ := Lib.hid hqn
        have hzy := hsy.lim.size
        have hll8 : (l.length + 1) * 8 ≤ 140737488351232 := by omega
        clear hsy hbn hqn hby2 k9 k3 kr kx
        refine ⟨rfl, rfl, wp_appendQ _ _ 23 Tryz.underlying23 rfl w1.heap.size (.slice an l.length cn) l ((m : Int) + 1) rfl HQZ.out lo8 1 rfl F8 HR0.out hll8 hzy ?_⟩
        intro v4 w4 hq4 hg4 hl4
        have hpp := HSZ.out.push HBZ.out HQZ.out ⟨HF.out.ne.2.1, HF.out.ne.2.2.1⟩ HF.out.lt hq4 hg4
        have k9 := hpp.1.cell 0
        have f9 := hpp.1.free 0
        have HPP := Lib.hid hpp.2
        obtain ⟨a4, n4, c4, rfl⟩ := hq4.form
        clear hpp hq4 hg4 hl4
        refine ⟨trivial, rfl, rfl, ?_⟩
        go_simp
        simp only [tailW]
        refine bodyPost_end (v := .tuple #[]) ?_ rfl ?_
        · simp [results, Tryz.results132, go_sem]
        · exact ⟨rfl, _, _, HPP.out, .inr ⟨c1', (m : Int) + 1, HX.out, by rw [HMM.out]; exact HO.out, by rw [HMM.out], rfl⟩⟩
      · have ho' : (ix od m == 0) = false := by simp [ho]
        have HO := Lib.hid ho
        clear ho
        go_enter Tryz.func132, Tryz.ntmps132
        go_wp2
        refine wp_region_ext (by kernel_rfl) (by kernel_rfl) ?_
        repeat (go_big_quiet_step (fail))
        refine wpQuiet_nil ?_
        intro w9 hw'
        obtain ⟨e9, he9⟩ := hw'
        have hb9 := e9.below
        rw [← he9] at hb9
        clear he9 e9
        try dsimp only
        go_wp2
        refine bodyPost_end (v := .tuple #[]) ?_ rfl ?_
        · simp [results, Tryz.results132, go_sem]
        · exact ⟨rfl, od, l, HS.out.on hb9, .inl ⟨rfl, rfl, fun _ y hy => by rw [HX.out] at hy; simp only [List.mem_singleton] at hy; subst hy; rw [HMM.out]; exact HO.out⟩⟩
  · have c1'' : decide (ix nd i ≤ 0) = false := decide_eq_false c1'
    have HC1 := Lib.hid c1'
    have HC := Lib.hid hcell3
    clear hcell3 c1'
    go_enter Tryz.func132, Tryz.ntmps132
    go_wp2
    refine wp_region_ext (by kernel_rfl) (by kernel_rfl) ?_
    repeat (go_big_quiet_step (fail))
    refine wpQuiet_nil ?_
    intro w9 hw'
    obtain ⟨e9, he9⟩ := hw'
    have hb9 := e9.below
    rw [← he9] at hb9
    clear he9 e9
    try dsimp only
    go_wp2
    refine bodyPost_end (v := .tuple #[]) ?_ rfl ?_
    · simp [results, Tryz.results132, go_sem]
    · exact ⟨rfl, od, l, HS.out.on hb9, .inl ⟨rfl, rfl, fun h => by have := HC1.out; omega⟩⟩
end
end Go.Proofs.YtfajkmmmmmfhiaaGreatDoor
namespace Go.Proofs.YtfajkmmmmmfhiaaGreatDoor
open Go.RowKit
theorem infoU : (Tryz.prog.info? 157).map (fun i => (i.zero, i.size, i.bytes)) = some (some (.slice none 0 0), 1, 24) := by kernel_rfl
theorem infoA : (Tryz.prog.info? 158).map (fun i => (i.zero, i.size, i.bytes)) = some (some (.agg #[.int .i64 0, .int .i64 0]), 2, 16) := by kernel_rfl
theorem wp_appendU {o : Oper} {a : Act} {w : World} {K : Act → World → Prop} {Q : Exit → Act → World → Prop} (s x : Operand) (T : TypeId) (hT : Tryz.prog.underlying T = some (.slice 158))
    (ho : o.op = .call { callee := .builtin .append, args := #[s, x], argTypes := #[T, T] }) (base : Nat) (v : Value) (n : Nat) (xs : List Value) (u : Int × Int) (hs : a.eval s = v) (hown : w.ownsRow base 158 2 v n xs)
    (g0 c : Nat) (hx : a.eval x = .slice (some ⟨g0, 0, none⟩) 1 c) (hb : Blk w g0 (cells2 u) 158) (hlen : (n + 1) * 16 ≤ 140737488351232) (hbase : base ≤ w.heap.size)
    (h : ∀ g cap w', w'.ownsRow base 158 2 (.slice (some ⟨g, 0, none⟩) (n + 1) cap) (n + 1) (xs ++ cells2 u) → w.grownBy w' v.ownBlock →
      (v.ownBlock = some g ∨ g = w.heap.size) → g < w'.heap.size → K (a.put o.dst (.slice (some ⟨g, 0, none⟩) (n + 1) cap)) w') : o.wp Tryz.prog a w K Q := by
  have hi := infoA
  obtain ⟨i, hi, he⟩ := Option.map_eq_some_iff.1 hi
  simp only [Prod.mk.injEq] at he
  refine wp_append_lies w s x T ho base 158 i _ 2 16 hT hi he.1 he.2.1 he.2.2 rfl (by decide) v n _ hs hown ⟨g0, 0, none⟩ 1 c (cells2 u) hx rfl (newsOf hb) (by simp [cells2, Value.oneCell']) (by omega) (by unfold maxLen; omega) (by omega) hbase _ rfl ?_
  exact h
theorem P1.setNeed {R : List GR} {nn nb tb i : Nat} {W6 wx : World} {nd : List Int} {V : List Value} {U : Int → List (Int × Int)} (h : P1 R nn W6 nb tb i nd V U wx) (v : Int) : P1 R nn W6 nb tb i (nd.set i v) V U (wx.setCell ⟨nb, i, none⟩ (.int .i64 v)) := by
  have hn := h.ne
  refine ⟨h.lim.trans (.setCell _ (.inl (by simp))), by rw [← mapI_setL]; exact h.need.set _ _, by simpa using h.len, fun j hj => ?_, h.uses.kept (by simp [World.setCell]) (fun b hb _ => Below.heap_setCell _ _ _ _ (show b ≠ nb by omega)), h.ne⟩
  rw [← h.val j hj]
  unfold ix
  simp only [List.getD_eq_getElem?_getD]
  rw [List.getElem?_set_ne (by omega)]
end Go.Proofs.YtfajkmmmmmfhiaaGreatDoor
