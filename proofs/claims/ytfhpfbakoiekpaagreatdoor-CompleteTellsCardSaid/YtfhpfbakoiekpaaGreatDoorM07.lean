/- My texts Cm3, Cm2, Shelf, merged. -/
import Derived.Test.YtfhpfbakoiekpaaGreatDoorM06
import Derived.Deep.OwnRows
import Derived.Shelf.Sort.Plain
import Derived.Shelf.Slices.CompactI
import Derived.Shelf.Slices.In.SortNone
import Derived.Shelf.Strconv.Itoa3
import Derived.Shelf.Strings.BuilderK
import Derived.Test.YtfhpfbakoiekpaaGreatDoorProg

/- complete.Supported: its contract. -/
namespace Go.Proofs.YtfhpfbakoiekpaaGreatDoor
open Go.RowKit

theorem rule_parts0 {r : GR} {n : Int} (h : ruleE r n = 0) : increasingB r.head n = true := by
  unfold ruleE at h
  split at h
  · cases h
  · split at h
    · cases h
    · rename_i h1 h2
      cases hi : increasingB r.head n with
      | true => rfl
      | false => exact absurd (.inl hi) h2

/-! ### Counting in a map of ints -/
/-- The map in block bm is positive where P holds, and there alone; nothing before W0 has turned. -/
def CntSt (W0 : World) (bm : Nat) (P : Int → Prop) (B : Int) (wx : World) : Prop :=
  ∃ G, MapIs (Value.int .i64) wx bm (mapI G) ∧ (∀ y, 0 ≤ G y ∧ G y ≤ B ∧ (0 < G y ↔ P y)) ∧ Below W0.heap.size W0 wx

theorem CntSt.start (W0 : World) : CntSt W0 W0.heap.size (fun _ => False) 0 (W0.alloc (.map #[] 0)) := by
  refine ⟨fun _ => 0, ?_, fun y => by simp, bal (Below.refl _ _) _⟩
  have : mapI (fun _ => 0) = fun _ => none := by funext x; simp [mapI]
  rw [this]; exact MapIs.made W0

theorem CntSt.on {W0 wx wy : World} {bm : Nat} {P : Int → Prop} {B : Int} (h : CntSt W0 bm P B wx) (hb : Below wx.heap.size wx wy) : CntSt W0 bm P B wy :=
  let ⟨G, h1, h2, h3⟩ := h; ⟨G, h1.below hb, h2, bon h3 hb⟩

theorem CntSt.same {W0 wx : World} {bm : Nat} {P Q : Int → Prop} {B C : Int} (h : CntSt W0 bm P B wx) (hp : ∀ y, P y ↔ Q y) (hB : B ≤ C) : CntSt W0 bm Q C wx :=
  let ⟨G, h1, h2, h3⟩ := h; ⟨G, h1, fun y => ⟨(h2 y).1, Int.le_trans (h2 y).2.1 hB, (h2 y).2.2.trans (hp y)⟩, h3⟩

theorem CntSt.put {W0 wx w7 : World} {bm : Nat} {P Q : Int → Prop} {B : Int} {G : Int → Int} {x : Int} (hG : ∀ y, 0 ≤ G y ∧ G y ≤ B ∧ (0 < G y ↔ P y)) (hb : Below W0.heap.size W0 wx) (hbm : W0.heap.size ≤ bm)
    (hm : MapIs (Value.int .i64) w7 bm (upd (mapI G) x (some (.int .i64 (G x + 1))))) (hg : wx.grownBy w7 (some bm)) (hQ : ∀ y, Q y ↔ P y ∨ y = x) : CntSt W0 bm Q (B + 1) w7 := by
  have hx := hG x
  have hsz := hb.size
  refine ⟨setI G x (G x + 1), by rw [mapI_set (by omega)]; exact hm, fun y => ?_, hb.trans ⟨hg.os, hg.tape, hg.output, hg.size, fun i hi => hg.block i (by omega) (fun e => by have := Option.some.inj e; omega)⟩⟩
  rw [hQ y]
  by_cases e : y = x
  · subst e
    have e2 : setI G y (G y + 1) y = G y + 1 := by simp [setI]
    rw [e2]
    exact ⟨by omega, by omega, ⟨fun _ => .inr rfl, fun _ => by omega⟩⟩
  · have e2 : setI G x (G x + 1) y = G y := by simp [setI, e]
    rw [e2]
    have := hG y
    exact ⟨this.1, by omega, ⟨fun h => .inl (this.2.2.1 h), fun h => this.2.2.2 (h.resolve_right e)⟩⟩

/-- x is in the head of a rule whose body is true, among the first k rules and the first j heads of the next. -/
def supP (p : GP) (m : List Int) (k : Nat) (hd : List Int) (x : Int) : Prop := (∃ i, i < k ∧ bodyT (ixR p.rules i) m = true ∧ x ∈ (ixR p.rules i).head) ∨ x ∈ hd

theorem supP_next {p : GP} {m : List Int} {k : Nat} (h : bodyT (ixR p.rules k) m = true) (x : Int) : supP p m k ((ixR p.rules k).head.take (ixR p.rules k).head.length) x ↔ supP p m (k + 1) [] x := by
  unfold supP
  rw [List.take_length]
  constructor
  · rintro (⟨i, hi, h1, h2⟩ | h1)
    · exact .inl ⟨i, by omega, h1, h2⟩
    · exact .inl ⟨k, by omega, h, h1⟩
  · rintro (⟨i, hi, h1, h2⟩ | h1)
    · by_cases e : i = k
      · subst e; exact .inr h2
      · exact .inl ⟨i, by omega, h1, h2⟩
    · cases h1

theorem supP_skip {p : GP} {m : List Int} {k : Nat} (h : bodyT (ixR p.rules k) m = false) (x : Int) : supP p m k [] x ↔ supP p m (k + 1) [] x := by
  unfold supP
  constructor
  · rintro (⟨i, hi, h1, h2⟩ | h1)
    · exact .inl ⟨i, by omega, h1, h2⟩
    · cases h1
  · rintro (⟨i, hi, h1, h2⟩ | h1)
    · by_cases e : i = k
      · subst e; rw [h] at h1; cases h1
      · exact .inl ⟨i, by omega, h1, h2⟩
    · cases h1

theorem supP_push {p : GP} {m : List Int} {k j : Nat} (hj : j < (ixR p.rules k).head.length) (x : Int) : supP p m k ((ixR p.rules k).head.take (j + 1)) x ↔ supP p m k ((ixR p.rules k).head.take j) x ∨ x = ix (ixR p.rules k).head j := by
  unfold supP
  rw [take_ixM _ j hj, List.mem_append, List.mem_singleton, or_assoc]

/-- m is supported. -/
def suppB (p : GP) (m : List Int) : Bool := modelsB p m && allR m.length (fun j => anyR p.rules.length (fun i => bodyT (ixR p.rules i) m && decide (ix m j ∈ (ixR p.rules i).head)))

theorem supc_any (x : Int) (G : Int → Int) (b cb : Nat) (w : World) (hb : Blk w cb [.map (some b)] 95) (hm : MapIs (Value.int .i64) w b (mapI G)) :
    Calls Tryz.prog 69 #[.int .i64 x, .pointer (some ⟨cb, 0, none⟩)] w fun e w' => e = .returned (.bool (decide (G x = 0))) ∧ w = w' := by
  have hlk := mapI_look hm x
  have kb := hb.cell 0
  clear hm hb
  go_enter Tryz.func69, Tryz.ntmps69
  go_wp2
  go_ret
  exact ⟨ret_bool (by first | rfl | (simp; done) | (by_cases e : G x = 0 <;> simp [e])), rfl⟩

set_option maxHeartbeats 1000000 in
theorem idx_spc (v : Value) (l : List Int) (w : World) (h : Ints w v l) (g : Nat → Bool) (cap : Value)
    (hg : ∀ w', Below w.heap.size w w' → ∀ j, j < l.length → Calls Tryz.prog 69 #[.int .i64 (ix l j), cap] w' fun e w'' => e = .returned (.bool (g j)) ∧ Below w'.heap.size w' w'') :
    Calls Tryz.prog 81 #[v, .func (.func 69) #[] #[cap]] w fun e w' => ∃ r, e = .returned (.int .i64 r) ∧ IxP l.length g r ∧ Below w.heap.size w w' := by
  obtain ⟨a1, c1, rfl, -, hl1, -, hcell⟩ := h.form
  have HG := Lib.hid hg
  clear h hg
  go_enter Tryz.func81, Tryz.ntmps81
  go_wp2
  go_loopw [8] (fun i wx => IxR l.length g w i wx) (fun i _ => l.length - (intOf i).toNat)
  case atStart => exact ⟨0, by omega, rfl, fun j hj => absurd hj (Nat.not_lt_zero _), Below.refl _ _⟩
  case round =>
    obtain ⟨k, hk, rfl, hall, hb⟩ := hrel
    have HA := Lib.hid hall
    clear hall
    by_cases hlt : k < l.length
    · obtain ⟨b, off, rfl, hbl, hc⟩ := hcell (by omega)
      have hk1 := (bcell hb _ _ hbl).trans (hc k hlt)
      clear hc hcell
      cases g1 : g k with
      | true =>
        have HK : Hid (_ = true) := Lib.hid g1
        have HC := Lib.hid (HG.out _ hb k hlt)
        rw [g1] at HC
        clear g1
        go_wp2_with (go_at_call 69; refine (HC.out).mono ?_; rintro e w1 ⟨rfl, hb1⟩)
        go_ret
        exact ⟨_, rfl, .inr ⟨k, hlt, rfl, HK.out, HA.out⟩, bon hb hb1⟩
      | false =>
        have HN := Lib.hid (lt_succ_all HA.out g1)
        have HC := Lib.hid (HG.out _ hb k hlt)
        rw [g1] at HC
        clear g1
        go_wp2_with (go_at_call 69; refine (HC.out).mono ?_; rintro e w1 ⟨rfl, hb1⟩)
        first
          | (go_roundw
             case rel => (exact ⟨k + 1, by omega, by go_num, HN.out, bon hb hb1⟩)
             case measure => (simp [intOf]; omega))
          | (refine ⟨?_, ?_⟩
             · (exact ⟨k + 1, by omega, by go_num, HN.out, bon hb hb1⟩)
             · (simp [intOf]; omega))
    · have HN : Hid (∀ j, j < l.length → g j = false) := Lib.hid (fun j hj => HA.out j (by omega))
      go_wp2
      go_ret
      exact ⟨_, rfl, .inl ⟨rfl, HN.out⟩, hb⟩

set_option maxHeartbeats 1000000 in
theorem ctn_spc (v : Value) (l : List Int) (w : World) (h : Ints w v l) (g : Nat → Bool) (cap : Value)
    (hg : ∀ w', Below w.heap.size w w' → ∀ j, j < l.length → Calls Tryz.prog 69 #[.int .i64 (ix l j), cap] w' fun e w'' => e = .returned (.bool (g j)) ∧ Below w'.heap.size w' w'') :
    Calls Tryz.prog 45 #[v, .func (.func 69) #[] #[cap]] w fun e w' => e = .returned (.bool (anyR l.length g)) ∧ Below w.heap.size w w' := by
  have HI := Lib.hid (idx_spc v l w h g cap hg)
  obtain ⟨a1, c1, rfl, -⟩ := h.form
  clear h hg
  go_enter Tryz.func45, Tryz.ntmps45
  go_wp2_with (go_at_call 81; refine (HI.out).mono ?_; rintro e w1 ⟨r, rfl, hr, hb1⟩; have HR := Lib.hid hr; clear hr)
  go_ret
  exact ⟨ret_bool HR.out.any, hb1⟩

def SupRel (p : GP) (m : List Int) (W2 : World) (i : Value) (wx : World) : Prop :=
  ∃ k : Nat, k ≤ p.rules.length ∧ i = .int .i64 k ∧ CntSt W2 W2.heap.size (supP p m k []) (4000 * k) wx ∧ Blk wx (W2.heap.size + 1) [.map (some W2.heap.size)] 95

def SupRel2 (p : GP) (m : List Int) (W2 : World) (k : Nat) (i : Value) (wx : World) : Prop :=
  ∃ j : Nat, j ≤ (ixR p.rules k).head.length ∧ i = .int .i64 j ∧ CntSt W2 W2.heap.size (supP p m k ((ixR p.rules k).head.take j)) (4000 * k + j) wx ∧ Blk wx (W2.heap.size + 1) [.map (some W2.heap.size)] 95

theorem supp_end {p : GP} {m : List Int} {G : Int → Int} (hm : modelsB p m = true) (hG : ∀ y, 0 ≤ G y ∧ (0 < G y ↔ supP p m p.rules.length [] y)) : (!anyR m.length (fun j => decide (G (ix m j) = 0))) = suppB p m := by
  unfold suppB
  rw [hm, Bool.true_and, ← allR_not]
  congr 1
  unfold anyR
  rw [Bool.eq_iff_iff, List.any_eq_true, List.any_eq_true]
  have key : ∀ j, (decide (G (ix m j) = 0) = true ↔ (!(List.range p.rules.length).any fun i => bodyT (ixR p.rules i) m && decide (ix m j ∈ (ixR p.rules i).head)) = true) := fun j => by
    have h1 := hG (ix m j)
    rw [decide_eq_true_eq, Bool.not_eq_true', List.any_eq_false]
    constructor
    · intro h0 i hi hc
      rw [Bool.and_eq_true, decide_eq_true_eq] at hc
      have := h1.2.2 (.inl ⟨i, List.mem_range.1 hi, hc.1, hc.2⟩)
      omega
    · intro h0
      by_cases e : G (ix m j) = 0
      · exact e
      · rcases h1.2.1 (by omega) with ⟨i, hi, h2, h3⟩ | h2
        · exact absurd (by rw [h2, decide_eq_true h3]; rfl) (h0 i (List.mem_range.2 hi))
        · cases h2
  constructor
  · rintro ⟨j, hj, h⟩; exact ⟨j, hj, (key j).1 h⟩
  · rintro ⟨j, hj, h⟩; exact ⟨j, hj, (key j).2 h⟩

set_option maxHeartbeats 4000000 in
set_option maxRecDepth 100000 in
theorem supported_any (v vm : Value) (p : GP) (m : List Int) (w : World) (h : ProgIs w v p) (hm : Ints w vm m) :
    Calls Tryz.prog 23 #[v, vm] w fun e w' => e = .returned (.bool (decide (validE p = 0) && (setQ p.n m && suppB p m))) ∧ Below w.heap.size w w' := by
  have h0 := h
  obtain ⟨vn, vs, vr, vmn, rfl, hps⟩ := h
  have hal := bal (Below.refl w.heap.size w) (.cells #[.int .i64 p.n, vn, vs, vr, vmn] 27)
  have HBX := Lib.hid (Blk.new w [.int .i64 p.n, vn, vs, vr, vmn] 27)
  have kx := HBX.out.cell
  have hlt := HBX.out.lt
  have HP := Lib.hid (h0.below hal)
  have HM := Lib.hid (hm.below hal)
  obtain ⟨a1, c1, rfl, -, hl1, -, hcellR⟩ := hps.rules.form
  have HCR := Lib.hid hcellR
  have HAL := Lib.hid hal
  obtain ⟨am, cm, rfl, -, -, -, hcellm⟩ := hm.form
  clear h0 hm hal hps hcellR hcellm
  by_cases hv : validE p = 0
  · have hve : (validE p != 0) = false := by simp [hv]
    cases hs : setQ p.n m with
    | true =>
      have HS := Lib.hid hs
      have hV := validP hv
      have hpn := hV.n
      have hpr := hV.rules
      have HCE : Hid (checkE p m = 0) := Lib.hid (by unfold checkE; rw [if_neg (by simp [hv]), hs]; rfl)
      have HBV : Hid (∀ k, k < p.rules.length → BodyV (ixR p.rules k) p.n) := Lib.hid (fun k hk => bodyV_valid hv hk)
      have hml := inc_le hs hpn.1
      cases hmo : modelsB p m with
      | true =>
        have HMO := Lib.hid hmo
        have HF : Hid ((decide (validE p = 0) && (true && suppB p m)) = suppB p m) := Lib.hid (by rw [decide_eq_true hv]; rfl)
        have HHL : Hid (∀ k, k < p.rules.length → (ixR p.rules k).head.length ≤ 4000 ∧ ∀ x ∈ (ixR p.rules k).head, InI x) := Lib.hid (fun k hk => by
          have h1 := (rule_parts0 (ruleE_at hv hk))
          refine ⟨?_, fun x hx => ?_⟩
          · rcases Nat.eq_zero_or_pos (ixR p.rules k).head.length with e | e
            · omega
            · have := inc_ge h1 ((ixR p.rules k).head.length - 1) (by omega)
              have h2 := inc_pos h1 (show (ixR p.rules k).head.length - 1 < (ixR p.rules k).head.length by omega)
              omega
          · obtain ⟨j, hj, rfl⟩ := mem_ix.1 hx
            have := inc_pos h1 hj
            unfold InI; omega)
        clear hv hs hV hmo
        have hmm := @run_makeMap Tryz.prog
        go_enter Tryz.func23, Tryz.ntmps23
        go_wp2_with (first | (go_at_call 36; (with_reducible refine (valid_any _ p _ HP.out).mono ?_); rintro e w1 ⟨e1, hb1⟩; subst e1; have kx1 := fun o => (bcell hb1 _ o hlt).trans (kx o); have hz1 := hb1.size; have HB1 := Lib.hid hb1; have hlt1 := Nat.lt_of_lt_of_le hlt hz1; clear hb1) | (go_at_call 63; (with_reducible refine (cset_any _ _ p m _ (HP.out.below HB1.out) (HM.out.below HB1.out)).mono ?_); rintro e w2 ⟨e2, hb2⟩; rw [HS.out] at e2; subst e2; have kx2 := fun o => (bcell hb2 _ o hlt1).trans (kx1 o); have HB2 := Lib.hid (bon HB1.out hb2); have hlt2 := Nat.lt_of_lt_of_le hlt1 hb2.size; clear hb2) | (go_at_call 68; (with_reducible refine (models_any _ _ p m _ (HP.out.below HB2.out) (HM.out.below HB2.out)).mono ?_); rintro e w3 ⟨e3, hb3⟩; rw [HCE.out, HMO.out] at e3; subst e3; have kx3 := fun o => (bcell hb3 _ o hlt2).trans (kx2 o); have HB3 := Lib.hid (bon HB2.out hb3); have hlt3 := Nat.lt_of_lt_of_le hlt2 hb3.size; clear hb3))
        clear kx1 kx hz1 hmm
        have hst := CntSt.start w3
        have HST := Lib.hid hst
        clear hst
        go_loopw [33] (fun i wx => SupRel p m w3 i wx) (fun i _ => p.rules.length - (intOf i).toNat)
        case atStart => exact ⟨0, Nat.zero_le _, rfl, (HST.out.on (bal (Below.refl _ _) _)).same (fun y => by simp [supP]) (by simp), Blk.newAt _ _ _ (by simp)⟩
        case round =>
          obtain ⟨k, hk, rfl, hst, hbk⟩ := hrel
          have HSK := Lib.hid hst
          have HBK := Lib.hid hbk
          obtain ⟨G, hmap, hG, hbl⟩ := hst
          have hbw : Below w.heap.size w wr := bon (bon HAL.out HB3.out) hbl
          by_cases hlt5 : k < p.rules.length
          · obtain ⟨b, off, rfl, hb5, hc⟩ := HCR.out (by omega)
            obtain ⟨vh, vb, vw, hcc, hsl⟩ := hc k hlt5
            obtain ⟨r0, r1, r2, r3, r4, r5⟩ := hcc.below hbw hb5
            have hal3 := bal (Below.refl wr.heap.size wr) (.cells #[.bool (ixR p.rules k).choice, vh, .bool (ixR p.rules k).sum, .int .i64 (ixR p.rules k).bound, vb, vw] 54)
            obtain ⟨a3, c3, rfl, -, hl3, -, hch⟩ := hsl.head.form
            obtain ⟨a4, c4, rfl, -, hl4, -, -⟩ := hsl.body.form
            obtain ⟨a5, c5, rfl, -, hl5, -, -⟩ := hsl.wts.form
            have HRI : Hid (RuleIs (wr.alloc (.cells #[.bool (ixR p.rules k).choice, .slice a3 (ixR p.rules k).head.length c3, .bool (ixR p.rules k).sum, .int .i64 (ixR p.rules k).bound, .slice a4 (ixR p.rules k).body.length c4, .slice a5 (ixR p.rules k).w.length c5] 54)) (.agg #[.bool (ixR p.rules k).choice, .slice a3 (ixR p.rules k).head.length c3, .bool (ixR p.rules k).sum, .int .i64 (ixR p.rules k).bound, .slice a4 (ixR p.rules k).body.length c4, .slice a5 (ixR p.rules k).w.length c5]) (ixR p.rules k)) := Lib.hid ⟨_, _, _, rfl, hsl.below (bon hbw hal3)⟩
            have HRB := Lib.hid (Blk.new wr [.bool (ixR p.rules k).choice, .slice a3 (ixR p.rules k).head.length c3, .bool (ixR p.rules k).sum, .int .i64 (ixR p.rules k).bound, .slice a4 (ixR p.rules k).body.length c4, .slice a5 (ixR p.rules k).w.length c5] 54)
            have HMI : Hid (Ints (wr.alloc (.cells #[.bool (ixR p.rules k).choice, .slice a3 (ixR p.rules k).head.length c3, .bool (ixR p.rules k).sum, .int .i64 (ixR p.rules k).bound, .slice a4 (ixR p.rules k).body.length c4, .slice a5 (ixR p.rules k).w.length c5] 54)) (.slice am m.length cm) m) := Lib.hid (HM.out.below ((HB3.out.trans ((bon hbl hal3).mono HB3.out.size))))
            have HAL3 := Lib.hid hal3
            have HCH := Lib.hid hch
            have HBW := Lib.hid hbw
            have hhl := HHL.out k hlt5
            clear hc hcc hsl hmap hG hbl hbk hbw hch
            cases hbt : bodyT (ixR p.rules k) m with
            | true =>
              have HBT := Lib.hid hbt
              clear hbt hal3
              go_wp2_with (go_at_call 64; (with_reducible refine (rBody_any _ _ (ixR p.rules k) m _ HRI.out HMI.out (by omega) (HBV.out k hlt5)).mono ?_); rintro e w6 ⟨e6, hb6⟩; rw [HBT.out] at e6; subst e6; have kr := (HRB.out.below hb6).cell; have HB6 := Lib.hid (bon HAL3.out hb6); have HS6 := Lib.hid (HSK.out.on HB6.out); have HK6 := Lib.hid (HBK.out.below HB6.out); clear hb6)
              clear kr
              go_loopw [43] (fun i wx => SupRel2 p m w3 k i wx) (fun i _ => (ixR p.rules k).head.length - (intOf i).toNat)
              case atStart => exact ⟨0, Nat.zero_le _, rfl, HS6.out.same (fun y => by simp) (by simp), HK6.out⟩
              case round =>
                obtain ⟨j, hj, rfl, hst, hbk⟩ := hrel
                obtain ⟨G, hmap, hG, hbl⟩ := hst
                have HMAP := Lib.hid hmap
                have HG := Lib.hid hG
                have HBL := Lib.hid hbl
                have HBK2 := Lib.hid hbk
                have kb := hbk.cell 0
                by_cases hlt6 : j < (ixR p.rules k).head.length
                · obtain ⟨b', off', rfl, hb7, hc7⟩ := HCH.out (by omega)
                  have hcx : wr.cell? ⟨b', off' + j, none⟩ = some (.int .i64 (ix (ixR p.rules k).head j)) := (bcell (bon (bon HAL.out HB3.out) hbl) _ _ hb7).trans (hc7 j hlt6)
                  have hlk := mapI_look hmap (ix (ixR p.rules k).head j)
                  have hGk := hG (ix (ixR p.rules k).head j)
                  have hGb : 0 ≤ G (ix (ixR p.rules k).head j) ∧ G (ix (ixR p.rules k).head j) ≤ 1000000000 := by omega
                  clear hc7 hmap hG hbl hGk hbk
                  go_wp2_with (at_mapUpdate; refine wpList_mput _ _ (ix (ixR p.rules k).head j) (.int .i64 (G (ix (ixR p.rules k).head j) + 1)) kvInt 95 3 3 Tryz.underlying95 Tryz.underlying3 rfl _ _ _ rfl rfl rfl rfl HMAP.out ?_; intro w7 hm7 hg7 hs7; have HS7 := Lib.hid (CntSt.put (Q := supP p m k ((ixR p.rules k).head.take (j + 1))) HG.out HBL.out (Nat.le_refl _) hm7 hg7 (supP_push hlt6)); have HB7 := Lib.hid (HBK2.out.same (hg7.block _ HBK2.out.lt (by intro e; have := Option.some.inj e; omega))); clear hm7 hg7 hs7)
                  first
                    | (go_roundw
                       case rel => (exact ⟨j + 1, hlt6, by go_num, HS7.out.same (fun _ => Iff.rfl) (by omega), HB7.out⟩)
                       case measure => (simp [intOf]; omega))
                    | (refine ⟨?_, ?_⟩
                       · (exact ⟨j + 1, hlt6, by go_num, HS7.out.same (fun _ => Iff.rfl) (by omega), HB7.out⟩)
                       · (simp [intOf]; omega))
                · obtain rfl : j = (ixR p.rules k).head.length := by omega
                  have HSN := Lib.hid ((show CntSt w3 w3.heap.size (supP p m k ((ixR p.rules k).head.take (ixR p.rules k).head.length)) (4000 * k + (ixR p.rules k).head.length) wr from ⟨G, hmap, hG, hbl⟩).same (C := 4000 * ((k + 1 : Nat) : Int)) (supP_next HBT.out) (by omega))
                  clear hmap hG hbl hbk
                  go_wp2
                  first
                    | (go_roundw
                       case rel => (exact ⟨k + 1, hlt5, by go_num, HSN.out, HBK2.out⟩)
                       case measure => (simp [intOf]; omega))
                    | (refine ⟨?_, ?_⟩
                       · (exact ⟨k + 1, hlt5, by go_num, HSN.out, HBK2.out⟩)
                       · (simp [intOf]; omega))
            | false =>
              have HBT := Lib.hid hbt
              clear hbt hal3
              go_wp2_with (go_at_call 64; (with_reducible refine (rBody_any _ _ (ixR p.rules k) m _ HRI.out HMI.out (by omega) (HBV.out k hlt5)).mono ?_); rintro e w6 ⟨e6, hb6⟩; rw [HBT.out] at e6; subst e6; have HB6 := Lib.hid (bon HAL3.out hb6); have HS6 := Lib.hid (HSK.out.on HB6.out); have HK6 := Lib.hid (HBK.out.below HB6.out); clear hb6)
              first
                | (go_roundw
                   case rel => (exact ⟨k + 1, hlt5, by go_num, HS6.out.same (supP_skip HBT.out) (by omega), HK6.out⟩)
                   case measure => (simp [intOf]; omega))
                | (refine ⟨?_, ?_⟩
                   · (exact ⟨k + 1, hlt5, by go_num, HS6.out.same (supP_skip HBT.out) (by omega), HK6.out⟩)
                   · (simp [intOf]; omega))
          · obtain rfl : k = p.rules.length := by omega
            have HEND : Hid ((!anyR m.length (fun j => decide (G (ix m j) = 0))) = suppB p m) := Lib.hid (supp_end HMO.out fun y => ⟨(hG y).1, (hG y).2.2⟩)
            have HMAP := Lib.hid hmap
            have HBW := Lib.hid hbw
            have HMW := Lib.hid (HM.out.below (HB3.out.trans (hbl.mono HB3.out.size)))
            clear hmap hG hbl hbk hbw
            go_wp2_with (go_at_call 45; (with_reducible refine (ctn_spc _ m _ HMW.out (fun j => decide (G (ix m j) = 0)) _ (fun w' hb j _ => (supc_any _ G _ _ w' (HBK.out.below hb) (HMAP.out.below hb)).mono fun e w'' ⟨e1, e2⟩ => ⟨e1, e2 ▸ Below.refl _ _⟩)).mono ?_); rintro e w9 ⟨rfl, hb9⟩)
            go_ret
            exact ⟨ret_bool (by rw [HEND.out, HF.out]), bon HBW.out hb9⟩
      | false =>
        have HMO := Lib.hid hmo
        have HF : Hid (suppB p m = false) := Lib.hid (by unfold suppB; rw [hmo]; rfl)
        clear hv hs hV hmo
        go_enter Tryz.func23, Tryz.ntmps23
        go_wp2_with (first | (go_at_call 36; (with_reducible refine (valid_any _ p _ HP.out).mono ?_); rintro e w1 ⟨e1, hb1⟩; subst e1; have kx1 := fun o => (bcell hb1 _ o hlt).trans (kx o); have hz1 := hb1.size; have HB1 := Lib.hid hb1; have hlt1 := Nat.lt_of_lt_of_le hlt hz1; clear hb1) | (go_at_call 63; (with_reducible refine (cset_any _ _ p m _ (HP.out.below HB1.out) (HM.out.below HB1.out)).mono ?_); rintro e w2 ⟨e2, hb2⟩; rw [HS.out] at e2; subst e2; have kx2 := fun o => (bcell hb2 _ o hlt1).trans (kx1 o); have HB2 := Lib.hid (bon HB1.out hb2); have hlt2 := Nat.lt_of_lt_of_le hlt1 hb2.size; clear hb2) | (go_at_call 68; (with_reducible refine (models_any _ _ p m _ (HP.out.below HB2.out) (HM.out.below HB2.out)).mono ?_); rintro e w3 ⟨e3, hb3⟩; rw [HCE.out, HMO.out] at e3; subst e3; have kx3 := fun o => (bcell hb3 _ o hlt2).trans (kx2 o); have HB3 := Lib.hid (bon HB2.out hb3); have hlt3 := Nat.lt_of_lt_of_le hlt2 hb3.size; clear hb3))
        go_ret
        exact ⟨ret_bool (by rw [HF.out]; simp), bon HAL.out HB3.out⟩
    | false =>
      have HS := Lib.hid hs
      clear hv hs
      go_enter Tryz.func23, Tryz.ntmps23
      go_wp2_with (first | (go_at_call 36; (with_reducible refine (valid_any _ p _ HP.out).mono ?_); rintro e w1 ⟨e1, hb1⟩; subst e1; have kx1 := fun o => (bcell hb1 _ o hlt).trans (kx o); have hz1 := hb1.size; have HB1 := Lib.hid hb1; have hlt1 := Nat.lt_of_lt_of_le hlt hz1; clear hb1) | (go_at_call 63; (with_reducible refine (cset_any _ _ p m _ (HP.out.below HB1.out) (HM.out.below HB1.out)).mono ?_); rintro e w2 ⟨e2, hb2⟩; rw [HS.out] at e2; subst e2; have kx2 := fun o => (bcell hb2 _ o hlt1).trans (kx1 o); have HB2 := Lib.hid (bon HB1.out hb2); have hlt2 := Nat.lt_of_lt_of_le hlt1 hb2.size; clear hb2) | (go_at_call 68; (with_reducible refine (models_any _ _ p m _ (HP.out.below HB2.out) (HM.out.below HB2.out)).mono ?_); rintro e w3 ⟨e3, hb3⟩; rw [HCE.out, HMO.out] at e3; subst e3; have kx3 := fun o => (bcell hb3 _ o hlt2).trans (kx2 o); have HB3 := Lib.hid (bon HB2.out hb3); have hlt3 := Nat.lt_of_lt_of_le hlt2 hb3.size; clear hb3))
      go_ret
      exact ⟨ret_bool (by simp), bon HAL.out HB2.out⟩
  · have hve : (validE p != 0) = true := by simp [hv]
    have HF : Hid (decide (validE p = 0) = false) := Lib.hid (decide_eq_false hv)
    clear hv
    go_enter Tryz.func23, Tryz.ntmps23
    go_wp2_with (first | (go_at_call 36; (with_reducible refine (valid_any _ p _ HP.out).mono ?_); rintro e w1 ⟨e1, hb1⟩; subst e1; have kx1 := fun o => (bcell hb1 _ o hlt).trans (kx o); have hz1 := hb1.size; have HB1 := Lib.hid hb1; have hlt1 := Nat.lt_of_lt_of_le hlt hz1; clear hb1) | (go_at_call 63; (with_reducible refine (cset_any _ _ p m _ (HP.out.below HB1.out) (HM.out.below HB1.out)).mono ?_); rintro e w2 ⟨e2, hb2⟩; rw [HS.out] at e2; subst e2; have kx2 := fun o => (bcell hb2 _ o hlt1).trans (kx1 o); have HB2 := Lib.hid (bon HB1.out hb2); have hlt2 := Nat.lt_of_lt_of_le hlt1 hb2.size; clear hb2) | (go_at_call 68; (with_reducible refine (models_any _ _ p m _ (HP.out.below HB2.out) (HM.out.below HB2.out)).mono ?_); rintro e w3 ⟨e3, hb3⟩; rw [HCE.out, HMO.out] at e3; subst e3; have kx3 := fun o => (bcell hb3 _ o hlt2).trans (kx2 o); have HB3 := Lib.hid (bon HB2.out hb3); have hlt3 := Nat.lt_of_lt_of_le hlt2 hb3.size; clear hb3))
    go_ret
    exact ⟨ret_bool (by rw [HF.out]; rfl), bon HAL.out HB1.out⟩

end Go.Proofs.YtfhpfbakoiekpaaGreatDoor

/- complete.Extend: its contract. -/
namespace Go.Proofs.YtfhpfbakoiekpaaGreatDoor
open Go.RowKit

/-- The value of a variable (from 0) in the extension. -/
def extAt (p : GP) (m : List Int) (j : Nat) : Int := if (j : Int) < p.n then (if (j : Int) + 1 ∈ m then 1 else -1) else (if bodyT (ixR p.rules (j - p.n.toNat)) m then 1 else -1)
/-- The extension. -/
def extA (p : GP) (m : List Int) : List Int := if validE p = 0 ∧ setQ p.n m = true then (List.range (p.n.toNat + p.rules.length)).map (extAt p m) else []

def fnL (N : Nat) (F : Nat → Int) : List Value := (List.range N).map fun j => .int .i8 (F j)

theorem fnL_set (N : Nat) (F : Nat → Int) (q : Nat) (v : Int) : (fnL N F).set q (.int .i8 v) = fnL N (fun j => if j = q then v else F j) := by
  unfold fnL
  apply List.ext_getElem
  · simp
  · intro i h1 h2
    simp only [List.getElem_set, List.getElem_map, List.getElem_range]
    by_cases e : q = i
    · subst e; simp
    · rw [if_neg e, if_neg (fun h => e h.symm)]

theorem fnL_congr {N : Nat} {F G : Nat → Int} (h : ∀ j, j < N → F j = G j) : fnL N F = fnL N G := List.map_congr_left fun j hj => by rw [h j (List.mem_range.1 hj)]

theorem fnL_at {N : Nat} {F : Nat → Int} {j : Nat} (hj : j < N) : (fnL N F)[j]? = some (.int .i8 (F j)) := by simp [fnL, hj]

def exF1 (k j : Nat) : Int := if j < k then -1 else 0
def exF2 (m : List Int) (k j : Nat) : Int := if (j : Int) + 1 ∈ m.take k then 1 else -1
def exF3 (p : GP) (m : List Int) (k j : Nat) : Int := if (j : Int) < p.n then (if (j : Int) + 1 ∈ m then 1 else -1) else (if j - p.n.toNat < k ∧ bodyT (ixR p.rules (j - p.n.toNat)) m = true then 1 else -1)

/-- The slice under way: block g of W2's next, F what it holds. -/
def ExSt (W2 : World) (N : Nat) (F : Nat → Int) (wx : World) : Prop := Below W2.heap.size W2 wx ∧ Blk wx W2.heap.size (fnL N F) 55

theorem ExSt.on {W2 wx wy : World} {N : Nat} {F : Nat → Int} (h : ExSt W2 N F wx) (hb : Below wx.heap.size wx wy) : ExSt W2 N F wy := ⟨bon h.1 hb, h.2.below hb⟩
theorem ExSt.put {W2 wx : World} {N q : Nat} {F G : Nat → Int} {v : Int} (h : ExSt W2 N F wx) (hG : ∀ j, j < N → G j = if j = q then v else F j) : ExSt W2 N G (wx.setCell ⟨W2.heap.size, q, none⟩ (.int .i8 v)) := by
  refine ⟨h.1.setCell (p := ⟨W2.heap.size, q, none⟩) (Nat.le_refl _) _, ?_⟩
  have := h.2.set q (.int .i8 v)
  rw [fnL_set, fnL_congr (G := G) fun j hj => (hG j hj).symm] at this
  exact this

def ExRel (W2 : World) (N n : Nat) (F : Nat → Nat → Int) (i : Value) (wx : World) : Prop := ∃ k : Nat, k ≤ n ∧ i = .int .i64 k ∧ ExSt W2 N (F k) wx

set_option maxHeartbeats 4000000 in
set_option maxRecDepth 100000 in
theorem extend_any (v vm : Value) (p : GP) (m : List Int) (w : World) (h : ProgIs w v p) (hm : Ints w vm m) :
    Calls Tryz.prog 21 #[v, vm] w fun e w' => ∃ a c, e = .returned (.slice a (extA p m).length c) ∧ Bytes8 w' (.slice a (extA p m).length c) (extA p m) ∧ Below w.heap.size w w' := by
  have h0 := h
  obtain ⟨vn, vs, vr, vmn, rfl, hps⟩ := h
  have hal := bal (Below.refl w.heap.size w) (.cells #[.int .i64 p.n, vn, vs, vr, vmn] 27)
  have HBX := Lib.hid (Blk.new w [.int .i64 p.n, vn, vs, vr, vmn] 27)
  have kx := HBX.out.cell
  have hlt := HBX.out.lt
  have HP := Lib.hid (h0.below hal)
  have HM := Lib.hid (hm.below hal)
  obtain ⟨a1, c1, rfl, -, hl1, -, hcellR⟩ := hps.rules.form
  have HCR := Lib.hid hcellR
  have HAL := Lib.hid hal
  obtain ⟨am, cm, rfl, -, -, -, hcellm⟩ := hm.form
  have HCM := Lib.hid hcellm
  clear h0 hm hal hps hcellR hcellm
  by_cases hv : validE p = 0
  · have hve : (validE p != 0) = false := by simp [hv]
    cases hs : setQ p.n m with
    | true =>
      have HS := Lib.hid hs
      have hV := validP hv
      have hpn := hV.n
      have hpr := hV.rules
      have HBV : Hid (∀ k, k < p.rules.length → BodyV (ixR p.rules k) p.n) := Lib.hid (fun k hk => bodyV_valid hv hk)
      have hml := inc_le hs hpn.1
      have HF : Hid (extA p m = (List.range (p.n.toNat + p.rules.length)).map (extAt p m)) := Lib.hid (if_pos ⟨hv, hs⟩)
      have HMR : Hid (∀ k, k < m.length → 1 ≤ ix m k ∧ ix m k ≤ p.n) := Lib.hid (fun k hk => by
        have := allR_get hs k hk
        unfold setTo at this
        simp only [Bool.and_eq_true, decide_eq_true_eq] at this
        exact this.1)
      obtain ⟨N, hN⟩ : ∃ N : Nat, N = p.n.toNat + p.rules.length := ⟨_, rfl⟩
      have hNi : p.n + (p.rules.length : Int) = N := by omega
      have HN := Lib.hid hN
      have HNI := Lib.hid hNi
      have hN1 : N ≤ 44000 := by omega
      have hmk : ∀ w : World, (Instr.makeSlice 28 (.int .i64 (N : Int)) (.int .i64 (N : Int))).run Tryz.prog w = .ok (.slice (some ⟨w.heap.size, 0, none⟩) N N) (w.alloc (.cells (madeCells #[.int .i8 0] N) 55)) := fun w => run_make_row' _ _ _ _ Tryz.underlying28 info8 rfl .i64 .i64 N (by omega) (by omega) w
      clear hv hs hV hN
      go_enter Tryz.func21, Tryz.ntmps21
      go_upto_region 4 with (first | (go_at_call 36; (with_reducible refine (valid_any _ p _ HP.out).mono ?_); rintro e w1 ⟨e1, hb1⟩; subst e1; have kx1 := fun o => (bcell hb1 _ o hlt).trans (kx o); have hz1 := hb1.size; have HB1 := Lib.hid hb1; have hlt1 := Nat.lt_of_lt_of_le hlt hz1; clear hb1) | (go_at_call 63; (with_reducible refine (cset_any _ _ p m _ (HP.out.below HB1.out) (HM.out.below HB1.out)).mono ?_); rintro e w2 ⟨e2, hb2⟩; rw [HS.out] at e2; subst e2; have kx2 := fun o => (bcell hb2 _ o hlt1).trans (kx1 o); have HB2 := Lib.hid (bon HB1.out hb2); have hlt2 := Nat.lt_of_lt_of_le hlt1 hb2.size; clear hb2))
      have hst : ExSt w2 N (exF1 0) (w2.alloc (.cells (madeCells #[.int .i8 0] N) 55)) := by
        refine ⟨bal (Below.refl _ _) _, ?_⟩
        have := Blk.new w2 (List.replicate N (Value.int .i8 0)) 55
        rw [← made_list] at this
        have e : fnL N (exF1 0) = List.replicate N (Value.int .i8 0) := by
          unfold fnL exF1
          apply List.ext_getElem (by simp)
          intro i h1 h2; simp
        rw [e]; exact this
      have HST := Lib.hid hst
      clear hst hmk hNi
      generalize w2.alloc (.cells (madeCells #[.int .i8 0] N) 55) = W3 at *
      clear kx1 kx hz1
      go_wp2
      go_loopw [29] (fun i wx => ExRel w2 N N exF1 i wx) (fun i _ => N - (intOf i).toNat)
      case atStart => exact ⟨0, Nat.zero_le _, rfl, HST.out⟩
      case round =>
        obtain ⟨k, hk, rfl, hx⟩ := hrel
        have HX := Lib.hid hx
        by_cases hlt3 : k < N
        · have q1 := (hx.2.cell k).trans (fnL_at hlt3)
          have q2 := hx.2.free k
          clear hx
          go_wp2
          first
            | (go_roundw
               case rel => (exact ⟨k + 1, hlt3, by go_num, HX.out.put fun j hj => by unfold exF1; by_cases e : j = k; (rw [if_pos (by omega), if_pos e]); (rw [if_neg e]; split <;> split <;> first | rfl | omega)⟩)
               case measure => (simp [intOf]; omega))
            | (refine ⟨?_, ?_⟩
               · (exact ⟨k + 1, hlt3, by go_num, HX.out.put fun j hj => by unfold exF1; by_cases e : j = k; (rw [if_pos (by omega), if_pos e]); (rw [if_neg e]; split <;> split <;> first | rfl | omega)⟩)
               · (simp [intOf]; omega))
        · obtain rfl : k = N := by omega
          go_wp2
          clear hx
          have hst2 : ExSt w2 k (exF2 m 0) wr := by
            refine ⟨HX.out.1, ?_⟩
            have := HX.out.2
            rw [fnL_congr (G := exF2 m 0) fun j hj => by unfold exF1 exF2; rw [if_pos hj]; simp] at this
            exact this
          have HST2 := Lib.hid hst2
          clear hst2 HX HST
          obtain ⟨wo, rfl⟩ : ∃ wo : World, wo = wr := ⟨_, rfl⟩
          go_loopw [38] (fun i wx => ExRel w2 k m.length (exF2 m) i wx) (fun i _ => m.length - (intOf i).toNat)
          case atStart => exact ⟨0, Nat.zero_le _, rfl, HST2.out⟩
          case round =>
            obtain ⟨i, hi, rfl, hx⟩ := hrel
            have HX := Lib.hid hx
            have hbw : Below w.heap.size w wr := bon (bon HAL.out HB2.out) hx.1
            by_cases hlt4 : i < m.length
            · obtain ⟨b, off, rfl, hbl, hc⟩ := HCM.out (by omega)
              have hmr := HMR.out i hlt4
              obtain ⟨q, hq⟩ : ∃ q : Nat, ix m i = (q : Int) + 1 := ⟨(ix m i - 1).toNat, by omega⟩
              have hcx : wr.cell? ⟨b, off + i, none⟩ = some (.int .i64 ((q : Int) + 1)) := (bcell hbw _ _ hbl).trans ((hc i hlt4).trans (by rw [hq]))
              have hqk : q < k := by have := HN.out; omega
              have q1 := (hx.2.cell q).trans (fnL_at hqk)
              have q2 := hx.2.free q
              have HP2 : Hid (∀ j, j < k → exF2 m (i + 1) j = if j = q then 1 else exF2 m i j) := Lib.hid (fun j hj => by
                unfold exF2
                rw [take_ixM m i hlt4]
                simp only [List.mem_append, List.mem_singleton, hq]
                by_cases e : j = q
                · subst e; simp
                · rw [if_neg e]
                  have : ((j : Int) + 1 ∈ m.take i ∨ (j : Int) + 1 = (q : Int) + 1) ↔ (j : Int) + 1 ∈ m.take i := ⟨fun h => h.resolve_right (by omega), .inl⟩
                  simp only [this])
              clear hx hc hq hmr hbw
              go_wp2
              first
                | (go_roundw
                   case rel => (exact ⟨i + 1, hlt4, by go_num, HX.out.put HP2.out⟩)
                   case measure => (simp [intOf]; omega))
                | (refine ⟨?_, ?_⟩
                   · (exact ⟨i + 1, hlt4, by go_num, HX.out.put HP2.out⟩)
                   · (simp [intOf]; omega))
            · obtain rfl : i = m.length := by omega
              have kq := fun o => (bcell hx.1 _ o hlt2).trans (kx2 o)
              have hst3 : ExSt w2 k (exF3 p m 0) wr := by
                refine ⟨hx.1, ?_⟩
                have := hx.2
                rw [fnL_congr (G := exF3 p m 0) fun j hj => by
                  unfold exF2 exF3
                  rw [List.take_length]
                  by_cases e : (j : Int) < p.n
                  · rw [if_pos e]
                  · rw [if_neg e, if_neg (fun h => by
                      obtain ⟨y, hy, e2⟩ := mem_ix.1 h
                      have := HMR.out y hy
                      omega), if_neg (by omega)]] at this
                exact this
              have HST3 := Lib.hid hst3
              clear hst3 hx hbw
              go_wp2
              clear HX HST2
              obtain ⟨wp, rfl⟩ : ∃ wo : World, wo = wr := ⟨_, rfl⟩
              go_loopw [50] (fun i wx => ExRel w2 k p.rules.length (exF3 p m) i wx) (fun i _ => p.rules.length - (intOf i).toNat)
              case atStart => exact ⟨0, Nat.zero_le _, rfl, HST3.out⟩
              case round =>
                clear kq
                obtain ⟨i, hi, rfl, hx⟩ := hrel
                have HX := Lib.hid hx
                have kq := fun o => (bcell hx.1 _ o hlt2).trans (kx2 o)
                have hbw : Below w.heap.size w wr := bon (bon HAL.out HB2.out) hx.1
                by_cases hlt5 : i < p.rules.length
                · obtain ⟨b, off, rfl, hbl, hc⟩ := HCR.out (by omega)
                  obtain ⟨vh, vb, vw, hcc, hsl⟩ := hc i hlt5
                  obtain ⟨r0, r1, r2, r3, r4, r5⟩ := hcc.below hbw hbl
                  have hal3 := bal (Below.refl wr.heap.size wr) (.cells #[.bool (ixR p.rules i).choice, vh, .bool (ixR p.rules i).sum, .int .i64 (ixR p.rules i).bound, vb, vw] 54)
                  obtain ⟨a3, c3, rfl, -, hl3, -, -⟩ := hsl.head.form
                  obtain ⟨a4, c4, rfl, -, hl4, -, -⟩ := hsl.body.form
                  obtain ⟨a5, c5, rfl, -, hl5, -, -⟩ := hsl.wts.form
                  have HRI : Hid (RuleIs (wr.alloc (.cells #[.bool (ixR p.rules i).choice, .slice a3 (ixR p.rules i).head.length c3, .bool (ixR p.rules i).sum, .int .i64 (ixR p.rules i).bound, .slice a4 (ixR p.rules i).body.length c4, .slice a5 (ixR p.rules i).w.length c5] 54)) (.agg #[.bool (ixR p.rules i).choice, .slice a3 (ixR p.rules i).head.length c3, .bool (ixR p.rules i).sum, .int .i64 (ixR p.rules i).bound, .slice a4 (ixR p.rules i).body.length c4, .slice a5 (ixR p.rules i).w.length c5]) (ixR p.rules i)) := Lib.hid ⟨_, _, _, rfl, hsl.below (bon hbw hal3)⟩
                  have HMI : Hid (Ints (wr.alloc (.cells #[.bool (ixR p.rules i).choice, .slice a3 (ixR p.rules i).head.length c3, .bool (ixR p.rules i).sum, .int .i64 (ixR p.rules i).bound, .slice a4 (ixR p.rules i).body.length c4, .slice a5 (ixR p.rules i).w.length c5] 54)) (.slice am m.length cm) m) := Lib.hid (HM.out.below ((HB2.out.trans ((bon hx.1 hal3).mono HB2.out.size))))
                  have HAL3 := Lib.hid hal3
                  obtain ⟨nn, hnn⟩ : ∃ nn : Nat, p.n = nn := ⟨p.n.toNat, by omega⟩
                  have hqk : nn + i < k := by have := HN.out; omega
                  have hq0 := kq 0
                  rw [show ([Value.int .i64 p.n, vn, vs, .slice (some ⟨b, off, none⟩) p.rules.length c1, vmn] : List Value)[0]? = some (.int .i64 (nn : Int)) by rw [← hnn]; rfl] at hq0
                  have hltw : w.heap.size < wr.heap.size := Nat.lt_of_lt_of_le hlt2 hx.1.size
                  have hti : ((nn : Int) + (i : Int)).toNat = nn + i := by omega
                  have hti2 : (nn : Int) + (i : Int) < k := by omega
                  clear hc hcc hsl hx hbw kq
                  cases hbt : bodyT (ixR p.rules i) m with
                  | true =>
                    have HBT := Lib.hid hbt
                    have HP3 : Hid (∀ j, j < k → exF3 p m (i + 1) j = if j = nn + i then 1 else exF3 p m i j) := Lib.hid (fun j hj => by
                      unfold exF3
                      by_cases e : j = nn + i
                      · subst e
                        rw [if_pos rfl, if_neg (by omega), if_pos ⟨by omega, by rw [show nn + i - p.n.toNat = i by omega]; exact hbt⟩]
                      · rw [if_neg e]
                        by_cases e2 : (j : Int) < p.n
                        · rw [if_pos e2, if_pos e2]
                        · rw [if_neg e2, if_neg e2]
                          have : (j - p.n.toNat < i + 1) ↔ j - p.n.toNat < i := by omega
                          simp only [this])
                    clear hbt hal3 hnn
                    go_wp2_with (go_at_call 64; (with_reducible refine (rBody_any _ _ (ixR p.rules i) m _ HRI.out HMI.out (by omega) (HBV.out i hlt5)).mono ?_); rintro e w6 ⟨e6, hb6⟩; rw [HBT.out] at e6; subst e6; have HX6 := Lib.hid (HX.out.on (bon HAL3.out hb6)); have q1 := (HX6.out.2.cell (nn + i)).trans (fnL_at hqk); have q2 := HX6.out.2.free (nn + i); have hq6 := (bcell (bon HAL3.out hb6) _ 0 hltw).trans hq0; clear hb6)
                    first
                      | (go_roundw
                         case rel => (exact ⟨i + 1, hlt5, by go_num, HX6.out.put HP3.out⟩)
                         case measure => (simp [intOf]; omega))
                      | (refine ⟨?_, ?_⟩
                         · (exact ⟨i + 1, hlt5, by go_num, HX6.out.put HP3.out⟩)
                         · (simp [intOf]; omega))
                  | false =>
                    have HBT := Lib.hid hbt
                    have HP3 : Hid (∀ j, j < k → exF3 p m (i + 1) j = exF3 p m i j) := Lib.hid (fun j hj => by
                      unfold exF3
                      by_cases e2 : (j : Int) < p.n
                      · rw [if_pos e2, if_pos e2]
                      · rw [if_neg e2, if_neg e2]
                        by_cases e : j - p.n.toNat = i
                        · rw [e, hbt]; simp
                        · have : (j - p.n.toNat < i + 1) ↔ j - p.n.toNat < i := by omega
                          simp only [this])
                    clear hbt hal3 hnn
                    go_wp2_with (go_at_call 64; (with_reducible refine (rBody_any _ _ (ixR p.rules i) m _ HRI.out HMI.out (by omega) (HBV.out i hlt5)).mono ?_); rintro e w6 ⟨e6, hb6⟩; rw [HBT.out] at e6; subst e6; have HX6 := Lib.hid (HX.out.on (bon HAL3.out hb6)); have q1 := (HX6.out.2.cell (nn + i)).trans (fnL_at hqk); have q2 := HX6.out.2.free (nn + i); have hq6 := (bcell (bon HAL3.out hb6) _ 0 hltw).trans hq0; clear hb6)
                    first
                      | (go_roundw
                         case rel => (exact ⟨i + 1, hlt5, by go_num, HX6.out.1, by rw [fnL_congr HP3.out]; exact HX6.out.2⟩)
                         case measure => (simp [intOf]; omega))
                      | (refine ⟨?_, ?_⟩
                         · (exact ⟨i + 1, hlt5, by go_num, HX6.out.1, by rw [fnL_congr HP3.out]; exact HX6.out.2⟩)
                         · (simp [intOf]; omega))
                · obtain rfl : i = p.rules.length := by omega
                  have HFE : Hid ((extA p m).length = k ∧ fnL k (exF3 p m p.rules.length) = (extA p m).map (Value.int .i8)) := Lib.hid (by
                    rw [HF.out]
                    refine ⟨by rw [List.length_map, List.length_range, HN.out], ?_⟩
                    unfold fnL
                    rw [List.map_map, HN.out]
                    refine List.map_congr_left fun j hj => ?_
                    have hj := List.mem_range.1 hj
                    show Value.int .i8 _ = Value.int .i8 _
                    congr 1
                    unfold exF3 extAt
                    by_cases e : (j : Int) < p.n
                    · rw [if_pos e, if_pos e]
                    · rw [if_neg e, if_neg e]
                      have : j - p.n.toNat < p.rules.length := by omega
                      simp only [this, true_and])
                  have HBY : Hid (Bytes8 wr (.slice (some ⟨w2.heap.size, 0, none⟩) k k) (extA p m)) := Lib.hid (by
                    have h1 := hx.2
                    rw [HFE.out.2] at h1
                    have h2 := Blk.bytes8 h1 (fit8 fun x hx => by
                      rw [HF.out] at hx
                      obtain ⟨j, -, rfl⟩ := List.mem_map.1 hx
                      unfold extAt
                      split <;> split <;> omega) (by rw [HFE.out.1]; omega)
                    rw [HFE.out.1] at h2
                    exact h2)
                  have HBW := Lib.hid hbw
                  clear hx hbw kq
                  go_wp2
                  go_ret
                  rw [HFE.out.1]
                  exact ⟨_, _, rfl, HBY.out, HBW.out⟩
    | false =>
      have HS := Lib.hid hs
      have HF : Hid (extA p m = []) := Lib.hid (by unfold extA; rw [if_neg (by rw [hs]; simp)])
      clear hv hs
      go_enter Tryz.func21, Tryz.ntmps21
      go_wp2_with (first | (go_at_call 36; (with_reducible refine (valid_any _ p _ HP.out).mono ?_); rintro e w1 ⟨e1, hb1⟩; subst e1; have kx1 := fun o => (bcell hb1 _ o hlt).trans (kx o); have hz1 := hb1.size; have HB1 := Lib.hid hb1; have hlt1 := Nat.lt_of_lt_of_le hlt hz1; clear hb1) | (go_at_call 63; (with_reducible refine (cset_any _ _ p m _ (HP.out.below HB1.out) (HM.out.below HB1.out)).mono ?_); rintro e w2 ⟨e2, hb2⟩; rw [HS.out] at e2; subst e2; have kx2 := fun o => (bcell hb2 _ o hlt1).trans (kx1 o); have HB2 := Lib.hid (bon HB1.out hb2); have hlt2 := Nat.lt_of_lt_of_le hlt1 hb2.size; clear hb2))
      go_ret
      rw [HF.out]
      exact ⟨_, _, rfl, nil_bytes8 _, bon HAL.out HB2.out⟩
  · have hve : (validE p != 0) = true := by simp [hv]
    have HF : Hid (extA p m = []) := Lib.hid (by unfold extA; rw [if_neg (fun h => hv h.1)])
    clear hv
    go_enter Tryz.func21, Tryz.ntmps21
    go_wp2_with (first | (go_at_call 36; (with_reducible refine (valid_any _ p _ HP.out).mono ?_); rintro e w1 ⟨e1, hb1⟩; subst e1; have kx1 := fun o => (bcell hb1 _ o hlt).trans (kx o); have hz1 := hb1.size; have HB1 := Lib.hid hb1; have hlt1 := Nat.lt_of_lt_of_le hlt hz1; clear hb1) | (go_at_call 63; (with_reducible refine (cset_any _ _ p m _ (HP.out.below HB1.out) (HM.out.below HB1.out)).mono ?_); rintro e w2 ⟨e2, hb2⟩; rw [HS.out] at e2; subst e2; have kx2 := fun o => (bcell hb2 _ o hlt1).trans (kx1 o); have HB2 := Lib.hid (bon HB1.out hb2); have hlt2 := Nat.lt_of_lt_of_le hlt1 hb2.size; clear hb2))
    go_ret
    rw [HF.out]
    exact ⟨_, _, rfl, nil_bytes8 _, bon HAL.out HB1.out⟩

end Go.Proofs.YtfhpfbakoiekpaaGreatDoor

/- Library contracts at this program (printed by the kit's lay-shelf and lay-plain; wip/shelf.py). -/
namespace Go.Proofs.YtfhpfbakoiekpaaGreatDoor
open Go.Shelf
def Tryz.lays169_ren : Go.Shelf.Ren := ⟨fun | 169 => 75 | n => n, fun | 70 => 96 | 9 => 9 | 0 => 0 | 72 => 99 | 37 => 97 | 127 => 130 | 3 => 3 | 5 => 5 | n => n, fun | n => n⟩
theorem Tryz.lays169 : Go.Proofs.Lays.n169 Tryz.prog Tryz.lays169_ren := {
  mixed := by kernel_rfl
  f169 := Tryz.func75.trans (congrArg some (by kernel_rfl))
  t0 := Tryz.underlying0
  a0 := Tryz.isAgg0
  z0 := Tryz.sizeOf0
  v0 := Tryz.zeroValue0
  t3 := Tryz.underlying3
  a3 := Tryz.isAgg3
  z3 := Tryz.sizeOf3
  v3 := Tryz.zeroValue3
  t9 := Tryz.underlying9
  a9 := Tryz.isAgg9
  z9 := Tryz.sizeOf9
  v9 := Tryz.zeroValue9
  t37 := Tryz.underlying97
  a37 := Tryz.isAgg97
  z37 := Tryz.sizeOf97
  v37 := Tryz.zeroValue97
  t70 := Tryz.underlying96
  a70 := Tryz.isAgg96
  z70 := Tryz.sizeOf96
  v70 := Tryz.zeroValue96
  t72 := Tryz.underlying99
  a72 := Tryz.isAgg99
  z72 := Tryz.sizeOf99
  v72 := Tryz.zeroValue99
  t127 := Tryz.underlying130
  a127 := Tryz.isAgg130
  z127 := Tryz.sizeOf130
  v127 := Tryz.zeroValue130 }
theorem Tryz.Builder_Extra_169 : Builder.Extra Tryz.prog Tryz.lays169_ren := {
  sizeBuilder := by kernel_rfl
  liesBuilder := by kernel_rfl
  t5 := Tryz.underlying5
  a5 := Tryz.isAgg5
  z5 := Tryz.sizeOf5
  v5 := Tryz.zeroValue5
  infoByte := by kernel_rfl
  cellsByte := by kernel_rfl
  sizeByte := by kernel_rfl
  neB5 := by decide }
open Go.RowKit in
theorem Tryz.Builder_String_any_k (B b : Nat) (l : List UInt8) (w : World) (h : Lib.IsBuilderF 99 5 B b (Lib.byteCells l) w) (hBw : B ≤ w.heap.size) :
    Calls Tryz.prog 75 #[.pointer (some ⟨b, 0, none⟩)] w fun e w' => e = .returned (.string ⟨l.toArray⟩) ∧ (Lib.IsBuilderF 99 5 B b (Lib.byteCells l) w' ∧ Below B w w' ∧ Lib.OthersKept 5 (some b) w w') := Any.Builder_String_any_k Tryz.lays169 Tryz.Builder_Extra_169 B b l w h hBw
def Tryz.lays171_ren : Go.Shelf.Ren := ⟨fun | 171 => 73 | 243 => 116 | 246 => 146 | 283 => 166 | 284 => 167 | 285 => 168 | 286 => 169 | 129 => 164 | 317 => 180 | 318 => 181 | 319 => 182 | 320 => 183 | 337 => 187 | 338 => 188 | n => n, fun | 3 => 3 | 9 => 9 | 2 => 2 | 4 => 4 | 171 => 165 | 0 => 0 | 53 => 164 | 37 => 97 | 5 => 5 | 173 => 167 | 212 => 177 | 51 => 162 | 20 => 20 | 213 => 178 | 46 => 141 | 232 => 184 | 233 => 185 | n => n, fun | 17 => 1 | 18 => 2 | 19 => 3 | n => n⟩
theorem Tryz.lays171 : Go.Proofs.Lays.n171 Tryz.prog Tryz.lays171_ren := {
  mixed := by kernel_rfl
  f129 := Tryz.func164.trans (congrArg some (by kernel_rfl))
  f171 := Tryz.func73.trans (congrArg some (by kernel_rfl))
  f243 := Tryz.func116.trans (congrArg some (by kernel_rfl))
  f246 := Tryz.func146.trans (congrArg some (by kernel_rfl))
  f283 := Tryz.func166.trans (congrArg some (by kernel_rfl))
  f284 := Tryz.func167.trans (congrArg some (by kernel_rfl))
  f285 := Tryz.func168.trans (congrArg some (by kernel_rfl))
  f286 := Tryz.func169.trans (congrArg some (by kernel_rfl))
  f317 := Tryz.func180.trans (congrArg some (by kernel_rfl))
  f318 := Tryz.func181.trans (congrArg some (by kernel_rfl))
  f319 := Tryz.func182.trans (congrArg some (by kernel_rfl))
  f320 := Tryz.func183.trans (congrArg some (by kernel_rfl))
  f337 := Tryz.func187.trans (congrArg some (by kernel_rfl))
  f338 := Tryz.func188.trans (congrArg some (by kernel_rfl))
  t0 := Tryz.underlying0
  a0 := Tryz.isAgg0
  z0 := Tryz.sizeOf0
  v0 := Tryz.zeroValue0
  t2 := Tryz.underlying2
  a2 := Tryz.isAgg2
  z2 := Tryz.sizeOf2
  v2 := Tryz.zeroValue2
  t3 := Tryz.underlying3
  a3 := Tryz.isAgg3
  z3 := Tryz.sizeOf3
  v3 := Tryz.zeroValue3
  t4 := Tryz.underlying4
  a4 := Tryz.isAgg4
  z4 := Tryz.sizeOf4
  v4 := Tryz.zeroValue4
  t5 := Tryz.underlying5
  a5 := Tryz.isAgg5
  z5 := Tryz.sizeOf5
  v5 := Tryz.zeroValue5
  t9 := Tryz.underlying9
  a9 := Tryz.isAgg9
  z9 := Tryz.sizeOf9
  v9 := Tryz.zeroValue9
  t20 := Tryz.underlying20
  a20 := Tryz.isAgg20
  z20 := Tryz.sizeOf20
  v20 := Tryz.zeroValue20
  t37 := Tryz.underlying97
  a37 := Tryz.isAgg97
  z37 := Tryz.sizeOf97
  v37 := Tryz.zeroValue97
  t46 := Tryz.underlying141
  a46 := Tryz.isAgg141
  z46 := Tryz.sizeOf141
  v46 := Tryz.zeroValue141
  t51 := Tryz.underlying162
  a51 := Tryz.isAgg162
  z51 := Tryz.sizeOf162
  v51 := Tryz.zeroValue162
  t53 := Tryz.underlying164
  a53 := Tryz.isAgg164
  z53 := Tryz.sizeOf164
  v53 := Tryz.zeroValue164
  t171 := Tryz.underlying165
  a171 := Tryz.isAgg165
  z171 := Tryz.sizeOf165
  v171 := Tryz.zeroValue165
  t173 := Tryz.underlying167
  a173 := Tryz.isAgg167
  z173 := Tryz.sizeOf167
  v173 := Tryz.zeroValue167
  t212 := Tryz.underlying177
  a212 := Tryz.isAgg177
  z212 := Tryz.sizeOf177
  v212 := Tryz.zeroValue177
  t213 := Tryz.underlying178
  a213 := Tryz.isAgg178
  z213 := Tryz.sizeOf178
  t232 := Tryz.underlying184
  a232 := Tryz.isAgg184
  z232 := Tryz.sizeOf184
  v232 := Tryz.zeroValue184
  t233 := Tryz.underlying185
  a233 := Tryz.isAgg185
  z233 := Tryz.sizeOf185
  v233 := Tryz.zeroValue185
  g17 := by kernel_rfl
  g18 := by kernel_rfl
  g19 := by kernel_rfl }
open Go.RowKit Go.Sort Go.Lib in
theorem Tryz.strconv_Itoa_small (i : Nat) (hi : i < 100) (w : World) :
    Calls Tryz.prog 73 #[.int .i64 i] w fun e w' => e = .returned (.string ⟨(Lib.decDigits i).toArray⟩) ∧ w' = w := Any.strconv_Itoa_small Tryz.lays171 i hi w
def Tryz.lays189_ren : Go.Shelf.Ren := ⟨fun | 189 => 107 | 125 => 137 | 257 => 136 | 128 => 163 | 129 => 164 | 294 => 154 | 295 => 155 | 296 => 156 | 297 => 157 | 298 => 158 | 299 => 159 | 216 => 160 | 300 => 161 | 301 => 162 | 328 => 175 | 329 => 176 | 330 => 177 | 331 => 178 | 332 => 179 | 215 => 170 | 343 => 186 | n => n, fun | 28 => 23 | 3 => 3 | 46 => 141 | 0 => 0 | 51 => 162 | 53 => 164 | 4 => 4 | 183 => 155 | 182 => 154 | 131 => 159 | 5 => 5 | 9 => 9 | 218 => 170 | 222 => 174 | 228 => 181 | 229 => 182 | n => n, fun | n => n⟩
theorem Tryz.lays189 : Go.Proofs.Lays.n189 Tryz.prog Tryz.lays189_ren := {
  mixed := by kernel_rfl
  f125 := Tryz.func137.trans (congrArg some (by kernel_rfl))
  f128 := Tryz.func163.trans (congrArg some (by kernel_rfl))
  f129 := Tryz.func164.trans (congrArg some (by kernel_rfl))
  f189 := Tryz.func107.trans (congrArg some (by kernel_rfl))
  f215 := Tryz.func170.trans (congrArg some (by kernel_rfl))
  f216 := Tryz.func160.trans (congrArg some (by kernel_rfl))
  f257 := Tryz.func136.trans (congrArg some (by kernel_rfl))
  f294 := Tryz.func154.trans (congrArg some (by kernel_rfl))
  f295 := Tryz.func155.trans (congrArg some (by kernel_rfl))
  f296 := Tryz.func156.trans (congrArg some (by kernel_rfl))
  f297 := Tryz.func157.trans (congrArg some (by kernel_rfl))
  f298 := Tryz.func158.trans (congrArg some (by kernel_rfl))
  f299 := Tryz.func159.trans (congrArg some (by kernel_rfl))
  f300 := Tryz.func161.trans (congrArg some (by kernel_rfl))
  f301 := Tryz.func162.trans (congrArg some (by kernel_rfl))
  f328 := Tryz.func175.trans (congrArg some (by kernel_rfl))
  f329 := Tryz.func176.trans (congrArg some (by kernel_rfl))
  f330 := Tryz.func177.trans (congrArg some (by kernel_rfl))
  f331 := Tryz.func178.trans (congrArg some (by kernel_rfl))
  f332 := Tryz.func179.trans (congrArg some (by kernel_rfl))
  f343 := Tryz.func186.trans (congrArg some (by kernel_rfl))
  t0 := Tryz.underlying0
  a0 := Tryz.isAgg0
  z0 := Tryz.sizeOf0
  v0 := Tryz.zeroValue0
  t3 := Tryz.underlying3
  a3 := Tryz.isAgg3
  z3 := Tryz.sizeOf3
  v3 := Tryz.zeroValue3
  t4 := Tryz.underlying4
  a4 := Tryz.isAgg4
  z4 := Tryz.sizeOf4
  v4 := Tryz.zeroValue4
  t5 := Tryz.underlying5
  a5 := Tryz.isAgg5
  z5 := Tryz.sizeOf5
  v5 := Tryz.zeroValue5
  t9 := Tryz.underlying9
  a9 := Tryz.isAgg9
  z9 := Tryz.sizeOf9
  v9 := Tryz.zeroValue9
  t28 := Tryz.underlying23
  a28 := Tryz.isAgg23
  z28 := Tryz.sizeOf23
  v28 := Tryz.zeroValue23
  t46 := Tryz.underlying141
  a46 := Tryz.isAgg141
  z46 := Tryz.sizeOf141
  v46 := Tryz.zeroValue141
  t51 := Tryz.underlying162
  a51 := Tryz.isAgg162
  z51 := Tryz.sizeOf162
  v51 := Tryz.zeroValue162
  t53 := Tryz.underlying164
  a53 := Tryz.isAgg164
  z53 := Tryz.sizeOf164
  v53 := Tryz.zeroValue164
  t131 := Tryz.underlying159
  a131 := Tryz.isAgg159
  z131 := Tryz.sizeOf159
  v131 := Tryz.zeroValue159
  t182 := Tryz.underlying154
  a182 := Tryz.isAgg154
  z182 := Tryz.sizeOf154
  v182 := Tryz.zeroValue154
  t183 := Tryz.underlying155
  a183 := Tryz.isAgg155
  z183 := Tryz.sizeOf155
  v183 := Tryz.zeroValue155
  t218 := Tryz.underlying170
  a218 := Tryz.isAgg170
  z218 := Tryz.sizeOf170
  v218 := Tryz.zeroValue170
  t222 := Tryz.underlying174
  a222 := Tryz.isAgg174
  z222 := Tryz.sizeOf174
  v222 := Tryz.zeroValue174
  t228 := Tryz.underlying181
  a228 := Tryz.isAgg181
  z228 := Tryz.sizeOf181
  v228 := Tryz.zeroValue181
  t229 := Tryz.underlying182
  a229 := Tryz.isAgg182
  z229 := Tryz.sizeOf182
  v229 := Tryz.zeroValue182 }
open Go.Sort Go.RowKit in
theorem Tryz.slices_Sort_int (blk off cap : Nat) (zs : List Int) (w : World) (hH : Holds (Value.int .i64) w blk off zs.toArray) (hblk : blk < w.heap.size) (hsz : zs.length < 4611686018427387904) :
    Calls Tryz.prog 107 #[.slice (some ⟨blk, off, none⟩) zs.length cap] w fun e w' =>
      e = .returned (.tuple #[]) ∧ ∃ n os, w' = grow (putRow (Value.int .i64) (Sort.ahead w n) blk off (zs.mergeSort fun x y => decide (x ≤ y)).toArray) os := Any.slices_Sort_int Tryz.lays189 blk off cap zs w hH hblk hsz
def Tryz.laysNm220_ren : Go.Shelf.Ren := ⟨fun | 20 => 87 | n => n, fun | 22 => 23 | 3 => 3 | 4 => 4 | 0 => 0 | n => n, fun | n => n⟩
theorem Tryz.laysNm220 : Go.Proofs.Lays2.n20 Tryz.prog Tryz.laysNm220_ren := {
  mixed := by kernel_rfl
  f20 := Tryz.func87.trans (congrArg some (by kernel_rfl))
  t0 := Tryz.underlying0
  a0 := Tryz.isAgg0
  z0 := Tryz.sizeOf0
  v0 := Tryz.zeroValue0
  t3 := Tryz.underlying3
  a3 := Tryz.isAgg3
  z3 := Tryz.sizeOf3
  v3 := Tryz.zeroValue3
  t4 := Tryz.underlying4
  a4 := Tryz.isAgg4
  z4 := Tryz.sizeOf4
  v4 := Tryz.zeroValue4
  t22 := Tryz.underlying23
  a22 := Tryz.isAgg23
  z22 := Tryz.sizeOf23
  v22 := Tryz.zeroValue23
  i3 := by kernel_rfl }
open Go.RowKit Go.Lib Go.Sort in
theorem Tryz.slices_Compact_int (blk off cap : Nat) (zs : List Int) (w : World) (hH : Holds (Value.int .i64) w blk off zs.toArray) (hsz : zs.length ≤ 9223372036854775807) (hcap : zs.length ≤ cap) :
    Calls Tryz.prog 87 #[.slice (some ⟨blk, off, none⟩) zs.length cap] w fun e w' => e = .returned (.slice (some ⟨blk, off, none⟩) (Lib.compact zs).length cap) ∧ ∃ q, w' = putRow (Value.int .i64) (Sort.ahead w q) blk off (Lib.compact zs ++ List.replicate (zs.length - (Lib.compact zs).length) 0).toArray := Any.slices_Compact_int Tryz.laysNm220 blk off cap zs w hH hsz hcap
open Go.RowKit Go.Lib Go.Sort in
theorem Tryz.slices_Compact_int_empty (a : Option Addr) (cap : Nat) (w : World) :
    Calls Tryz.prog 87 #[.slice a 0 cap] w fun e w' => e = .returned (.slice a 0 cap) ∧ w' = w := Any.slices_Compact_int_empty Tryz.laysNm220 a cap w
open Go.RowKit Go.Sort in
theorem Tryz.slices_Sort_int_none (p : Option Addr) (cap : Nat) (w : World) :
    Calls Tryz.prog 107 #[.slice p 0 cap] w fun e w' => e = .returned (.tuple #[]) ∧ w' = w := Any.slices_Sort_int_none Tryz.lays189 p cap w
end Go.Proofs.YtfhpfbakoiekpaaGreatDoor
