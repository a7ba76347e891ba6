/- My texts Cm3, merged. -/
import Derived.Test.YtjodocheiejkeaaGreatDoorM06
import Derived.Test.YtjodocheiejkeaaGreatDoorM05
import Derived.Test.YtjodocheiejkeaaGreatDoorM04
import Derived.Test.YtjodocheiejkeaaGreatDoorM03
import Derived.Test.YtjodocheiejkeaaGreatDoorM02
import Derived.Test.YtjodocheiejkeaaGreatDoorM00
import Derived.Test.YtjodocheiejkeaaGreatDoorProg
import Derived.WalkKit
import Derived.Lib.Hide
import Derived.Deep.QuietTactic
import Derived.BigQuiet
import Derived.WalkSpells
import Derived.Lib.SliceRun
import Derived.MapKept
import Derived.Maps.OwnSet
import Derived.Maps.OwnOps
import Derived.Test.YtjodocheiejkeaaGreatDoorM01
import Derived.Deep.AppendLies
import Derived.Lib.Bytealg
import Derived.Deep.DeepCutAuto
import Derived.Laws.EntriesVeiled
import Derived.Deep.RegionWith
import Derived.Test.YtjodocheiejkeaaGreatDoorM07
import Derived.RangeFuncNested
import Derived.RangeFuncBound
import Derived.RangeFuncCalls
import Derived.RangeFuncLeaves
import Derived.OwnWalkIn
import Derived.TacticsInMore
import Derived.LoopNIn
import Derived.LoopIn
import Derived.Stop.RegionWithIn
import Derived.Shelf.Abstract

namespace Go.Proofs.YtjodocheiejkeaaGreatDoor
open Go.RowKit
theorem rule_parts0 {r : GR} {n : Int} (h : ruleE r n = 0) : increasingB r.head n = true := by
  unfold ruleE at h
  split at h
  · cases h
  · split at h
    · cases h
    · rename_i h1 h2
      cases hi : increasingB r.head n with
      | true => rfl
      | false => exact absurd (.inl hi) h2
def supP (p : GP) (m : List Int) (k : Nat) (hd : List Int) (x : Int) : Prop := (∃ i, i < k ∧ bodyT (ixR p.rules i) m = true ∧ x ∈ (ixR p.rules i).head) ∨ x ∈ hd
theorem supP_next {p : GP} {m : List Int} {k : Nat} (h : bodyT (ixR p.rules k) m = true) (x : Int) : supP p m k ((ixR p.rules k).head.take (ixR p.rules k).head.length) x ↔ supP p m (k + 1) [] x := by
  unfold supP
  rw [List.take_length]
  constructor
  · rintro (⟨i, hi, h1, h2⟩ | h1)
    · exact .inl ⟨i, by omega, h1, h2⟩
    · exact .inl ⟨k, by omega, h, h1⟩
  · rintro (⟨i, hi, h1, h2⟩ | h1)
    · by_cases e : i = k
      · subst e; exact .inr h2
      · exact .inl ⟨i, by omega, h1, h2⟩
    · cases h1
theorem supP_skip {p : GP} {m : List Int} {k : Nat} (h : bodyT (ixR p.rules k) m = false) (x : Int) : supP p m k [] x ↔ supP p m (k + 1) [] x := by
  unfold supP
  constructor
  · rintro (⟨i, hi, h1, h2⟩ | h1)
    · exact .inl ⟨i, by omega, h1, h2⟩
    · cases h1
  · rintro (⟨i, hi, h1, h2⟩ | h1)
    · by_cases e : i = k
      · subst e; rw [h] at h1; cases h1
      · exact .inl ⟨i, by omega, h1, h2⟩
    · cases h1
theorem supP_push {p : GP} {m : List Int} {k j : Nat} (hj : j < (ixR p.rules k).head.length) (x : Int) : supP p m k ((ixR p.rules k).head.take (j + 1)) x ↔ supP p m k ((ixR p.rules k).head.take j) x ∨ x = ix (ixR p.rules k).head j := by
  unfold supP
  rw [take_ixM _ j hj, List.mem_append, List.mem_singleton, or_assoc]
theorem supc_any (x : Int) (G : Int → Int) (b cb : Nat) (w : World) (hb : Blk w cb [.map (some b)] 41) (hm : MapIs (Value.int .i64) w b (mapI G)) :
    Calls Tryz.prog 43 #[.int .i64 x, .pointer (some ⟨cb, 0, none⟩)] w fun e w' => e = .returned (.bool (decide (G x = 0))) ∧ w = w' := by
  have hlk := mapI_look hm x
  have kb := hb.cell 0
  clear hm hb
  go_enter Tryz.func43, Tryz.ntmps43
  go_wp2
  go_ret
  exact ⟨ret_bool (by first | rfl | (simp; done) | (by_cases e : G x = 0 <;> simp [e])), rfl⟩
set_option maxHeartbeats 1000000 in
theorem idx_spc (v : Value) (l : List Int) (w : World) (h : Ints w v l) (g : Nat → Bool) (cap : Value)
    (hg : ∀ w', Below w.heap.size w w' → ∀ j, j < l.length → Calls Tryz.prog 43 #[.int .i64 (ix l j), cap] w' fun e w'' => e = .returned (.bool (g j)) ∧ Below w'.heap.size w' w'') :
    Calls Tryz.prog 83 #[v, .func (.func 43) #[] #[cap]] w fun e w' => ∃ r, e = .returned (.int .i64 r) ∧ IxP l.length g r ∧ Below w.heap.size w w' := by
  obtain ⟨a1, c1, rfl, -, hl1, -, hcell⟩ := h.form
  have HG := Lib.hid hg
  clear h hg
  go_enter Tryz.func83, Tryz.ntmps83
  go_wp2
  go_loopw [8] (fun i wx => IxR l.length g w i wx) (fun i _ => l.length - (intOf i).toNat)
  case atStart => exact ⟨0, by omega, rfl, fun j hj => absurd hj (Nat.not_lt_zero _), Below.refl _ _⟩
  case round =>
    obtain ⟨k, hk, rfl, hall, hb⟩ := hrel
    have HA := Lib.hid hall
    clear hall
    by_cases hlt : k < l.length
    · obtain ⟨b, off, rfl, hbl, hc⟩ := hcell (by omega)
      have hk1 := (bcell hb _ _ hbl).trans (hc k hlt)
      clear hc hcell
      cases g1 : g k with
      | true =>
        have HK : Hid (_ = true) := Lib.hid g1
        have HC := Lib.hid (HG.out _ hb k hlt)
        rw [g1] at HC
        clear g1
        go_wp2_with (go_at_call 43; refine (HC.out).mono ?_; rintro e w1 ⟨rfl, hb1⟩)
        go_ret
        exact ⟨_, rfl, .inr ⟨k, hlt, rfl, HK.out, HA.out⟩, bon hb hb1⟩
      | false =>
        have HN := Lib.hid (lt_succ_all HA.out g1)
        have HC := Lib.hid (HG.out _ hb k hlt)
        rw [g1] at HC
        clear g1
        go_wp2_with (go_at_call 43; refine (HC.out).mono ?_; rintro e w1 ⟨rfl, hb1⟩)
        first
          | (go_roundw
             case rel => (exact ⟨k + 1, by omega, by go_num, HN.out, bon hb hb1⟩)
             case measure => (simp [intOf]; omega))
          | (refine ⟨?_, ?_⟩
             · (exact ⟨k + 1, by omega, by go_num, HN.out, bon hb hb1⟩)
             · (simp [intOf]; omega))
    · have HN : Hid (∀ j, j < l.length → g j = false) := Lib.hid (fun j hj => HA.out j (by omega))
      go_wp2
      go_ret
      exact ⟨_, rfl, .inl ⟨rfl, HN.out⟩, hb⟩
set_option maxHeartbeats 1000000 in
theorem ctn_spc (v : Value) (l : List Int) (w : World) (h : Ints w v l) (g : Nat → Bool) (cap : Value)
    (hg : ∀ w', Below w.heap.size w w' → ∀ j, j < l.length → Calls Tryz.prog 43 #[.int .i64 (ix l j), cap] w' fun e w'' => e = .returned (.bool (g j)) ∧ Below w'.heap.size w' w'') :
    Calls Tryz.prog 42 #[v, .func (.func 43) #[] #[cap]] w fun e w' => e = .returned (.bool (anyR l.length g)) ∧ Below w.heap.size w w' := by
  have HI := Lib.hid (idx_spc v l w h g cap hg)
  obtain ⟨a1, c1, rfl, -⟩ := h.form
  clear h hg
  go_enter Tryz.func42, Tryz.ntmps42
  go_wp2_with (go_at_call 83; refine (HI.out).mono ?_; rintro e w1 ⟨r, rfl, hr, hb1⟩; have HR := Lib.hid hr; clear hr)
  go_ret
  exact ⟨ret_bool HR.out.any, hb1⟩
def SupRel (p : GP) (m : List Int) (W2 : World) (i : Value) (wx : World) : Prop :=
  ∃ k : Nat, k ≤ p.rules.length ∧ i = .int .i64 k ∧ CntSt W2 W2.heap.size (supP p m k []) (4000 * k) wx ∧ Blk wx (W2.heap.size + 1) [.map (some W2.heap.size)] 41
def SupRel2 (p : GP) (m : List Int) (W2 : World) (k : Nat) (i : Value) (wx : World) : Prop :=
  ∃ j : Nat, j ≤ (ixR p.rules k).head.length ∧ i = .int .i64 j ∧ CntSt W2 W2.heap.size (supP p m k ((ixR p.rules k).head.take j)) (4000 * k + j) wx ∧ Blk wx (W2.heap.size + 1) [.map (some W2.heap.size)] 41
theorem supp_end {p : GP} {m : List Int} {G : Int → Int} (hm : modelsB p m = true) (hG : ∀ y, 0 ≤ G y ∧ (0 < G y ↔ supP p m p.rules.length [] y)) : (!anyR m.length (fun j => decide (G (ix m j) = 0))) = suppB p m := by
  unfold suppB
  rw [hm, Bool.true_and, ← allR_not]
  congr 1
  unfold anyR
  rw [Bool.eq_iff_iff, List.any_eq_true, List.any_eq_true]
  have key : ∀ j, (decide (G (ix m j) = 0) = true ↔ (!(List.range p.rules.length).any fun i => bodyT (ixR p.rules i) m && decide (ix m j ∈ (ixR p.rules i).head)) = true) := fun j => by
    have h1 := hG (ix m j)
    rw [decide_eq_true_eq, Bool.not_eq_true', List.any_eq_false]
    constructor
    · intro h0 i hi hc
      rw [Bool.and_eq_true, decide_eq_true_eq] at hc
      have := h1.2.2 (.inl ⟨i, List.mem_range.1 hi, hc.1, hc.2⟩)
      omega
    · intro h0
      by_cases e : G (ix m j) = 0
      · exact e
      · rcases h1.2.1 (by omega) with ⟨i, hi, h2, h3⟩ | h2
        · exact absurd (by rw [h2, decide_eq_true h3]; rfl) (h0 i (List.mem_range.2 hi))
        · cases h2
  constructor
  · rintro ⟨j, hj, h⟩; exact ⟨j, hj, (key j).1 h⟩
  · rintro ⟨j, hj, h⟩; exact ⟨j, hj, (key j).2 h⟩
set_option maxHeartbeats 4000000 in
set_option maxRecDepth 100000 in
theorem supported_any (v vm : Value) (p : GP) (m : List Int) (w : World) (h : ProgIs w v p) (hm : Ints w vm m) :
    Calls Tryz.prog 10 #[v, vm] w fun e w' => e = .returned (.bool (decide (validE p = 0) && (setQ p.n m && suppB p m))) ∧ Below w.heap.size w w' := by
  have h0 := h
  obtain ⟨vn, vs, vr, vmn, rfl, hps⟩ := h
  have hal := bal (Below.refl w.heap.size w) (.cells #[.int .i64 p.n, vn, vs, vr, vmn] 27)
  have HBX := Lib.hid (Blk.new w [.int .i64 p.n, vn, vs, vr, vmn] 27)
  have kx := HBX.out.cell
  have hlt := HBX.out.lt
  have HP := Lib.hid (h0.below hal)
  have HM := Lib.hid (hm.below hal)
  obtain ⟨a1, c1, rfl, -, hl1, -, hcellR⟩ := hps.rules.form
  have HCR := Lib.hid hcellR
  have HAL := Lib.hid hal
  obtain ⟨am, cm, rfl, -, -, -, hcellm⟩ := hm.form
  clear h0 hm hal hps hcellR hcellm
  by_cases hv : validE p = 0
  · have hve : (validE p != 0) = false := by simp [hv]
    cases hs : setQ p.n m with
    | true =>
      have HS := Lib.hid hs
      have hV := validP hv
      have hpn := hV.n
      have hpr := hV.rules
      have HCE : Hid (checkE p m = 0) := Lib.hid (by unfold checkE; rw [if_neg (by simp [hv]), hs]; rfl)
      have HBV : Hid (∀ k, k < p.rules.length → BodyV (ixR p.rules k) p.n) := Lib.hid (fun k hk => bodyV_valid hv hk)
      have hml := inc_le hs hpn.1
      cases hmo : modelsB p m with
      | true =>
        have HMO := Lib.hid hmo
        have HF : Hid ((decide (validE p = 0) && (true && suppB p m)) = suppB p m) := Lib.hid (by rw [decide_eq_true hv]; rfl)
        have HHL : Hid (∀ k, k < p.rules.length → (ixR p.rules k).head.length ≤ 4000 ∧ ∀ x ∈ (ixR p.rules k).head, InI x) := Lib.hid (fun k hk => by
          have h1 := (rule_parts0 (ruleE_at hv hk))
          refine ⟨?_, fun x hx => ?_⟩
          · rcases Nat.eq_zero_or_pos (ixR p.rules k).head.length with e | e
            · omega
            · have := inc_ge h1 ((ixR p.rules k).head.length - 1) (by omega)
              have h2 := inc_pos h1 (show (ixR p.rules k).head.length - 1 < (ixR p.rules k).head.length by omega)
              omega
          · obtain ⟨j, hj, rfl⟩ := mem_ix.1 hx
            have := inc_pos h1 hj
            unfold InI; omega)
        clear hv hs hV hmo
        have hmm := @run_makeMap Tryz.prog
        go_enter Tryz.func10, Tryz.ntmps10
        go_wp2_with (first | (go_at_call 22; (with_reducible refine (valid_any _ p _ HP.out).mono ?_); rintro e w1 ⟨e1, hb1⟩; subst e1; have kx1 := fun o => (bcell hb1 _ o hlt).trans (kx o); have hz1 := hb1.size; have HB1 := Lib.hid hb1; have hlt1 := Nat.lt_of_lt_of_le hlt hz1; clear hb1) | (go_at_call 39; (with_reducible refine (cset_any _ _ p m _ (HP.out.below HB1.out) (HM.out.below HB1.out)).mono ?_); rintro e w2 ⟨e2, hb2⟩; rw [HS.out] at e2; subst e2; have kx2 := fun o => (bcell hb2 _ o hlt1).trans (kx1 o); have HB2 := Lib.hid (bon HB1.out hb2); have hlt2 := Nat.lt_of_lt_of_le hlt1 hb2.size; clear hb2) | (go_at_call 40; (with_reducible refine (models_any _ _ p m _ (HP.out.below HB2.out) (HM.out.below HB2.out)).mono ?_); rintro e w3 ⟨e3, hb3⟩; rw [HCE.out, HMO.out] at e3; subst e3; have kx3 := fun o => (bcell hb3 _ o hlt2).trans (kx2 o); have HB3 := Lib.hid (bon HB2.out hb3); have hlt3 := Nat.lt_of_lt_of_le hlt2 hb3.size; clear hb3))
        clear kx1 kx hz1 hmm
        have hst := CntSt.start w3
        have HST := Lib.hid hst
        clear hst
        go_loopw [33] (fun i wx => SupRel p m w3 i wx) (fun i _ => p.rules.length - (intOf i).toNat)
        case atStart => exact ⟨0, Nat.zero_le _, rfl, (HST.out.on (bal (Below.refl _ _) _)).same (fun y => by simp [supP]) (by simp), Blk.newAt _ _ _ (by simp)⟩
        case round =>
          obtain ⟨k, hk, rfl, hst, hbk⟩ := hrel
          have HSK := Lib.hid hst
          have HBK := Lib.hid hbk
          obtain ⟨G, hmap, hG, hbl⟩ := hst
          have hbw : Below w.heap.size w wr := bon (bon HAL.out HB3.out) hbl
          by_cases hlt5 : k < p.rules.length
          · obtain ⟨b, off, rfl, hb5, hc⟩ := HCR.out (by omega)
            obtain ⟨vh, vb, vw, hcc, hsl⟩ := hc k hlt5
            obtain ⟨r0, r1, r2, r3, r4, r5⟩ := hcc.below hbw hb5
            have hal3 := bal (Below.refl wr.heap.size wr) (.cells #[.bool (ixR p.rules k).choice, vh, .bool (ixR p.rules k).sum, .int .i64 (ixR p.rules k).bound, vb, vw] 55)
            obtain ⟨a3, c3, rfl, -, hl3, -, hch⟩ := hsl.head.form
            obtain ⟨a4, c4, rfl, -, hl4, -, -⟩ := hsl.body.form
            obtain ⟨a5, c5, rfl, -, hl5, -, -⟩ := hsl.wts.form
            have HRI : Hid (RuleIs (wr.alloc (.cells #[.bool (ixR p.rules k).choice, .slice a3 (ixR p.rules k).head.length c3, .bool (ixR p.rules k).sum, .int .i64 (ixR p.rules k).bound, .slice a4 (ixR p.rules k).body.length c4, .slice a5 (ixR p.rules k).w.length c5] 55)) (.agg #[.bool (ixR p.rules k).choice, .slice a3 (ixR p.rules k).head.length c3, .bool (ixR p.rules k).sum, .int .i64 (ixR p.rules k).bound, .slice a4 (ixR p.rules k).body.length c4, .slice a5 (ixR p.rules k).w.length c5]) (ixR p.rules k)) := Lib.hid ⟨_, _, _, rfl, hsl.below (bon hbw hal3)⟩
            have HRB := Lib.hid (Blk.new wr [.bool (ixR p.rules k).choice, .slice a3 (ixR p.rules k).head.length c3, .bool (ixR p.rules k).sum, .int .i64 (ixR p.rules k).bound, .slice a4 (ixR p.rules k).body.length c4, .slice a5 (ixR p.rules k).w.length c5] 55)
            have HMI : Hid (Ints (wr.alloc (.cells #[.bool (ixR p.rules k).choice, .slice a3 (ixR p.rules k).head.length c3, .bool (ixR p.rules k).sum, .int .i64 (ixR p.rules k).bound, .slice a4 (ixR p.rules k).body.length c4, .slice a5 (ixR p.rules k).w.length c5] 55)) (.slice am m.length cm) m) := Lib.hid (HM.out.below ((HB3.out.trans ((bon hbl hal3).mono HB3.out.size))))
            have HAL3 := Lib.hid hal3
            have HCH := Lib.hid hch
            have HBW := Lib.hid hbw
            have hhl := HHL.out k hlt5
            clear hc hcc hsl hmap hG hbl hbk hbw hch
            cases hbt : bodyT (ixR p.rules k) m with
            | true =>
              have HBT := Lib.hid hbt
              clear hbt hal3
              go_wp2_with (go_at_call 41; (with_reducible refine (rBody_any _ _ (ixR p.rules k) m _ HRI.out HMI.out (by omega) (HBV.out k hlt5)).mono ?_); rintro e w6 ⟨e6, hb6⟩; rw [HBT.out] at e6; subst e6; have kr := (HRB.out.below hb6).cell; have HB6 := Lib.hid (bon HAL3.out hb6); have HS6 := Lib.hid (HSK.out.on HB6.out); have HK6 := Lib.hid (HBK.out.below HB6.out); clear hb6)
              clear kr
              go_loopw [43] (fun i wx => SupRel2 p m w3 k i wx) (fun i _ => (ixR p.rules k).head.length - (intOf i).toNat)
              case atStart => exact ⟨0, Nat.zero_le _, rfl, HS6.out.same (fun y => by simp) (by simp), HK6.out⟩
              case round =>
                obtain ⟨j, hj, rfl, hst, hbk⟩ := hrel
                obtain ⟨G, hmap, hG, hbl⟩ := hst
                have HMAP := Lib.hid hmap
                have HG := Lib.hid hG
                have HBL := Lib.hid hbl
                have HBK2 := Lib.hid hbk
                have kb := hbk.cell 0
                by_cases hlt6 : j < (ixR p.rules k).head.length
                · obtain ⟨b', off', rfl, hb7, hc7⟩ := HCH.out (by omega)
                  have hcx : wr.cell? ⟨b', off' + j, none⟩ = some (.int .i64 (ix (ixR p.rules k).head j)) := (bcell (bon (bon HAL.out HB3.out) hbl) _ _ hb7).trans (hc7 j hlt6)
                  have hlk := mapI_look hmap (ix (ixR p.rules k).head j)
                  have hGk := hG (ix (ixR p.rules k).head j)
                  have hGb : 0 ≤ G (ix (ixR p.rules k).head j) ∧ G (ix (ixR p.rules k).head j) ≤ 1000000000 := by omega
                  clear hc7 hmap hG hbl hGk hbk
                  go_wp2_with (at_mapUpdate; refine wpList_mput _ _ (ix (ixR p.rules k).head j) (.int .i64 (G (ix (ixR p.rules k).head j) + 1)) kvInt 41 3 3 Tryz.underlying41 Tryz.underlying3 rfl _ _ _ rfl rfl rfl rfl HMAP.out ?_; intro w7 hm7 hg7 hs7; have HS7 := Lib.hid (CntSt.put (Q := supP p m k ((ixR p.rules k).head.take (j + 1))) HG.out HBL.out (Nat.le_refl _) hm7 hg7 (supP_push hlt6)); have HB7 := Lib.hid (HBK2.out.same (hg7.block _ HBK2.out.lt (by intro e; have := Option.some.inj e; omega))); clear hm7 hg7 hs7)
                  first
                    | (go_roundw
                       case rel => (exact ⟨j + 1, hlt6, by go_num, HS7.out.same (fun _ => Iff.rfl) (by omega), HB7.out⟩)
                       case measure => (simp [intOf]; omega))
                    | (refine ⟨?_, ?_⟩
                       · (exact ⟨j + 1, hlt6, by go_num, HS7.out.same (fun _ => Iff.rfl) (by omega), HB7.out⟩)
                       · (simp [intOf]; omega))
                · obtain rfl : j = (ixR p.rules k).head.length := by omega
                  have HSN := Lib.hid ((show CntSt w3 w3.heap.size (supP p m k ((ixR p.rules k).head.take (ixR p.rules k).head.length)) (4000 * k + (ixR p.rules k).head.length) wr from ⟨G, hmap, hG, hbl⟩).same (C := 4000 * ((k + 1 : Nat) : Int)) (supP_next HBT.out) (by omega))
                  clear hmap hG hbl hbk
                  go_wp2
                  first
                    | (go_roundw
                       case rel => (exact ⟨k + 1, hlt5, by go_num, HSN.out, HBK2.out⟩)
                       case measure => (simp [intOf]; omega))
                    | (refine ⟨?_, ?_⟩
                       · (exact ⟨k + 1, hlt5, by go_num, HSN.out, HBK2.out⟩)
                       · (simp [intOf]; omega))
            | false =>
              have HBT := Lib.hid hbt
              clear hbt hal3
              go_wp2_with (go_at_call 41; (with_reducible refine (rBody_any _ _ (ixR p.rules k) m _ HRI.out HMI.out (by omega) (HBV.out k hlt5)).mono ?_); rintro e w6 ⟨e6, hb6⟩; rw [HBT.out] at e6; subst e6; have HB6 := Lib.hid (bon HAL3.out hb6); have HS6 := Lib.hid (HSK.out.on HB6.out); have HK6 := Lib.hid (HBK.out.below HB6.out); clear hb6)
              first
                | (go_roundw
                   case rel => (exact ⟨k + 1, hlt5, by go_num, HS6.out.same (supP_skip HBT.out) (by omega), HK6.out⟩)
                   case measure => (simp [intOf]; omega))
                | (refine ⟨?_, ?_⟩
                   · (exact ⟨k + 1, hlt5, by go_num, HS6.out.same (supP_skip HBT.out) (by omega), HK6.out⟩)
                   · (simp [intOf]; omega))
          · obtain rfl : k = p.rules.length := by omega
            have HEND : Hid ((!anyR m.length (fun j => decide (G (ix m j) = 0))) = suppB p m) := Lib.hid (supp_end HMO.out fun y => ⟨(hG y).1, (hG y).2.2⟩)
            have HMAP := Lib.hid hmap
            have HBW := Lib.hid hbw
            have HMW := Lib.hid (HM.out.below (HB3.out.trans (hbl.mono HB3.out.size)))
            clear hmap hG hbl hbk hbw
            go_wp2_with (go_at_call 42; (with_reducible refine (ctn_spc _ m _ HMW.out (fun j => decide (G (ix m j) = 0)) _ (fun w' hb j _ => (supc_any _ G _ _ w' (HBK.out.below hb) (HMAP.out.below hb)).mono fun e w'' ⟨e1, e2⟩ => ⟨e1, e2 ▸ Below.refl _ _⟩)).mono ?_); rintro e w9 ⟨rfl, hb9⟩)
            go_ret
            exact ⟨ret_bool (by rw [HEND.out, HF.out]), bon HBW.out hb9⟩
      | false =>
        have HMO := Lib.hid hmo
        have HF : Hid (suppB p m = false) := Lib.hid (by unfold suppB; rw [hmo]; rfl)
        clear hv hs hV hmo
        go_enter Tryz.func10, Tryz.ntmps10
        go_wp2_with (first | (go_at_call 22; (with_reducible refine (valid_any _ p _ HP.out).mono ?_); rintro e w1 ⟨e1, hb1⟩; subst e1; have kx1 := fun o => (bcell hb1 _ o hlt).trans (kx o); have hz1 := hb1.size; have HB1 := Lib.hid hb1; have hlt1 := Nat.lt_of_lt_of_le hlt hz1; clear hb1) | (go_at_call 39; (with_reducible refine (cset_any _ _ p m _ (HP.out.below HB1.out) (HM.out.below HB1.out)).mono ?_); rintro e w2 ⟨e2, hb2⟩; rw [HS.out] at e2; subst e2; have kx2 := fun o => (bcell hb2 _ o hlt1).trans (kx1 o); have HB2 := Lib.hid (bon HB1.out hb2); have hlt2 := Nat.lt_of_lt_of_le hlt1 hb2.size; clear hb2) | (go_at_call 40; (with_reducible refine (models_any _ _ p m _ (HP.out.below HB2.out) (HM.out.below HB2.out)).mono ?_); rintro e w3 ⟨e3, hb3⟩; rw [HCE.out, HMO.out] at e3; subst e3; have kx3 := fun o => (bcell hb3 _ o hlt2).trans (kx2 o); have HB3 := Lib.hid (bon HB2.out hb3); have hlt3 := Nat.lt_of_lt_of_le hlt2 hb3.size; clear hb3))
        go_ret
        exact ⟨ret_bool (by rw [HF.out]; simp), bon HAL.out HB3.out⟩
    | false =>
      have HS := Lib.hid hs
      clear hv hs
      go_enter Tryz.func10, Tryz.ntmps10
      go_wp2_with (first | (go_at_call 22; (with_reducible refine (valid_any _ p _ HP.out).mono ?_); rintro e w1 ⟨e1, hb1⟩; subst e1; have kx1 := fun o => (bcell hb1 _ o hlt).trans (kx o); have hz1 := hb1.size; have HB1 := Lib.hid hb1; have hlt1 := Nat.lt_of_lt_of_le hlt hz1; clear hb1) | (go_at_call 39; (with_reducible refine (cset_any _ _ p m _ (HP.out.below HB1.out) (HM.out.below HB1.out)).mono ?_); rintro e w2 ⟨e2, hb2⟩; rw [HS.out] at e2; subst e2; have kx2 := fun o => (bcell hb2 _ o hlt1).trans (kx1 o); have HB2 := Lib.hid (bon HB1.out hb2); have hlt2 := Nat.lt_of_lt_of_le hlt1 hb2.size; clear hb2) | (go_at_call 40; (with_reducible refine (models_any _ _ p m _ (HP.out.below HB2.out) (HM.out.below HB2.out)).mono ?_); rintro e w3 ⟨e3, hb3⟩; rw [HCE.out, HMO.out] at e3; subst e3; have kx3 := fun o => (bcell hb3 _ o hlt2).trans (kx2 o); have HB3 := Lib.hid (bon HB2.out hb3); have hlt3 := Nat.lt_of_lt_of_le hlt2 hb3.size; clear hb3))
      go_ret
      exact ⟨ret_bool (by simp), bon HAL.out HB2.out⟩
  · have hve : (validE p != 0) = true := by simp [hv]
    have HF : Hid (decide (validE p = 0) = false) := Lib.hid (decide_eq_false hv)
    clear hv
    go_enter Tryz.func10, Tryz.ntmps10
    go_wp2_with (first | (go_at_call 22; (with_reducible refine (valid_any _ p _ HP.out).mono ?_); rintro e w1 ⟨e1, hb1⟩; subst e1; have kx1 := fun o => (bcell hb1 _ o hlt).trans (kx o); have hz1 := hb1.size; have HB1 := Lib.hid hb1; have hlt1 := Nat.lt_of_lt_of_le hlt hz1; clear hb1) | (go_at_call 39; (with_reducible refine (cset_any _ _ p m _ (HP.out.below HB1.out) (HM.out.below HB1.out)).mono ?_); rintro e w2 ⟨e2, hb2⟩; rw [HS.out] at e2; subst e2; have kx2 := fun o => (bcell hb2 _ o hlt1).trans (kx1 o); have HB2 := Lib.hid (bon HB1.out hb2); have hlt2 := Nat.lt_of_lt_of_le hlt1 hb2.size; clear hb2) | (go_at_call 40; (with_reducible refine (models_any _ _ p m _ (HP.out.below HB2.out) (HM.out.below HB2.out)).mono ?_); rintro e w3 ⟨e3, hb3⟩; rw [HCE.out, HMO.out] at e3; subst e3; have kx3 := fun o => (bcell hb3 _ o hlt2).trans (kx2 o); have HB3 := Lib.hid (bon HB2.out hb3); have hlt3 := Nat.lt_of_lt_of_le hlt2 hb3.size; clear hb3))
    go_ret
    exact ⟨ret_bool (by rw [HF.out]; rfl), bon HAL.out HB1.out⟩
end Go.Proofs.YtjodocheiejkeaaGreatDoor
