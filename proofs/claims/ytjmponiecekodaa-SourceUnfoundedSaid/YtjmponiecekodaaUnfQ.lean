/- ostlerlaw33.SourceUnfounded returns true and writes nothing that was there. -/
import Derived.Test.YtjmponiecekodaaME
import Derived.Test.YtjmponiecekodaaMC
namespace Go.Proofs.Ytjmponiecekodaa
open Go.RowKit

theorem find_sorted (F : Int → Int) (a : List Int) : ∀ k, (findTo F a k).Pairwise (· < ·)
  | 0 => by simp [findTo]
  | k + 1 => by
    have ih := find_sorted F a k
    unfold findTo
    split
    · refine List.pairwise_append.2 ⟨ih, by simp, fun x hx y hy => ?_⟩
      have h1 := (find_mem k).1 hx
      rw [List.mem_singleton] at hy
      omega
    · exact ih

theorem find_set {F : Int → Int} {a : List Int} {n : Int} (h : 0 < (findTo F a n.toNat).length) : setB' n (findTo F a n.toNat) = true := by
  unfold setB'
  rw [decide_eq_true h, Bool.and_true]
  refine allR_true fun j hj => ?_
  unfold setTo
  simp only [Bool.and_eq_true, Bool.or_eq_true, decide_eq_true_eq, beq_iff_eq]
  have h1 := (find_mem _).1 (ix_mem hj)
  refine ⟨by omega, ?_⟩
  rcases Nat.eq_zero_or_pos j with h0 | h0
  · exact .inl h0
  · refine .inr ?_
    have h2 := List.pairwise_iff_getElem.1 (find_sorted F a n.toNat) (j - 1) j (by omega) hj (by omega)
    have e : ∀ k, (hk : k < (findTo F a n.toNat).length) → ix (findTo F a n.toNat) k = (findTo F a n.toNat)[k] := fun k hk => by simp [ix, List.getD_eq_getElem?_getD, List.getElem?_eq_getElem hk]
    rw [e j hj, e (j - 1) (by omega)]
    exact h2

theorem find_unf {p : GP} {a : List Int} {F : Int → Int} (hv : validE p = 0) (hF : IsFnd p a F) (h : 0 < (findTo F a p.n.toNat).length) : unfB p a (findTo F a p.n.toNat) = true := by
  unfold unfB
  rw [decide_eq_true hv, find_set h, find_exc hv hF]
  rfl

/-- The map of the result's atoms under way. -/
def MemSt (W4 : World) (bm : Nat) (U : List Int) (k : Nat) (wx : World) : Prop :=
  ∃ G, MapIs (Value.int .i64) wx bm (mapI G) ∧ (∀ y, 0 ≤ G y ∧ G y ≤ k ∧ (0 < G y ↔ y ∈ U.take k)) ∧ Below W4.heap.size W4 wx

def MemRel (W4 : World) (bm : Nat) (U : List Int) (i : Value) (wx : World) : Prop := ∃ k : Nat, k ≤ U.length ∧ i = .int .i64 k ∧ MemSt W4 bm U k wx

theorem MemSt.start (W4 : World) (U : List Int) : MemSt W4 W4.heap.size U 0 (W4.alloc (.map #[] 0)) := by
  refine ⟨fun _ => 0, ?_, fun y => by simp, bal (Below.refl _ _) _⟩
  have : mapI (fun _ => 0) = fun _ => none := by funext x; simp [mapI]
  rw [this]; exact MapIs.made W4

theorem MemSt.put {W4 wx w7 : World} {U : List Int} {k : Nat} {G : Int → Int} (hG : ∀ y, 0 ≤ G y ∧ G y ≤ k ∧ (0 < G y ↔ y ∈ U.take k)) (hb : Below W4.heap.size W4 wx) (hk : k < U.length)
    (hm : MapIs (Value.int .i64) w7 W4.heap.size (upd (mapI G) (ix U k) (some (.int .i64 (G (ix U k) + 1))))) (hg : wx.grownBy w7 (some W4.heap.size)) : MemSt W4 W4.heap.size U (k + 1) w7 := by
  have hx := hG (ix U k)
  have hsz := hb.size
  refine ⟨setI G (ix U k) (G (ix U k) + 1), by rw [mapI_set (by omega)]; exact hm, fun y => ?_, hb.trans ⟨hg.os, hg.tape, hg.output, hg.size, fun i hi => hg.block i (by omega) (fun e => by have := Option.some.inj e; omega)⟩⟩
  rw [take_ix U k hk, List.mem_append, List.mem_singleton]
  by_cases e : y = ix U k
  · subst e
    rw [setI_eq]
    exact ⟨by omega, by omega, ⟨fun _ => .inr rfl, fun _ => by omega⟩⟩
  · rw [setI_ne G _ e]
    have := hG y
    exact ⟨this.1, by omega, ⟨fun h => .inl (this.2.2.1 h), fun h => this.2.2.2 (h.resolve_right e)⟩⟩

/-- The copy of the program under way: its box lies in the block behind w0. -/
structure FreeSt (p : GP) (w0 : World) (k : Nat) (ag : Option Addr) (cg : Nat) (va vc vd : Value) (vh vb vw : Nat → Value) (wx : World) : Prop where
  box : Blk wx w0.heap.size [.int .i64 p.n, va, vc, .slice ag p.rules.length cg, vd] 27
  cap : p.rules.length ≤ cg ∧ cg ≤ maxLen
  rows : 0 < p.rules.length → ∃ g D, ag = some ⟨g, 0, none⟩ ∧ w0.heap.size < g ∧ Blk wx g D 41 ∧ ∀ i, i < p.rules.length → ∀ j, j < 6 → D[i * 6 + j]? = some (ruleCell (if i < k then (ixR p.rules i).free else ixR p.rules i) (vh i) (vb i) (vw i) j)
  below : Below w0.heap.size w0 wx

def FreeRel (p : GP) (w0 : World) (ag : Option Addr) (cg : Nat) (va vc vd : Value) (vh vb vw : Nat → Value) (i : Value) (wx : World) : Prop := ∃ k : Nat, k ≤ p.rules.length ∧ i = .int .i64 k ∧ FreeSt p w0 k ag cg va vc vd vh vb vw wx

theorem FreeSt.start {p : GP} {w0 W5 w7 : World} {ag : Option Addr} {cg : Nat} {va vc vd v3 : Value} {vh vb vw : Nat → Value} (hb5 : Below w0.heap.size w0 W5) (hbox : Blk W5 w0.heap.size [.int .i64 p.n, va, vc, v3, vd] 27)
    (hc : CopyPost p.rules vh vb vw (W5.alloc (.cells #[] 41)) w7 ag cg) : FreeSt p w0 0 ag cg va vc vd vh vb vw (w7.setCell ⟨w0.heap.size, 3, none⟩ (.slice ag p.rules.length cg)) := by
  obtain ⟨h1, h2, h3, h4⟩ := hc
  have hal := bal (Below.refl W5.heap.size W5) (.cells #[] 41)
  have hlt := hbox.lt
  have hsz : (W5.alloc (.cells #[] 41)).heap.size = W5.heap.size + 1 := World.size_alloc ..
  refine ⟨((hbox.below (bon hal h3)).set 3 _), ⟨h1, h2⟩, fun hp => ?_, (bon hb5 (bon hal h3)).setCell (p := ⟨w0.heap.size, 3, none⟩) (Nat.le_refl _) _⟩
  obtain ⟨D, e, hD, hc⟩ := h4 hp
  exact ⟨_, D, e, by omega, hD.setOther _ _ (by omega), fun i hi j hj => by rw [if_neg (Nat.not_lt_zero _)]; exact hc i hi j hj⟩

theorem FreeSt.step {p : GP} {w0 wx : World} {k g cg : Nat} {va vc vd : Value} {vh vb vw : Nat → Value} (h : FreeSt p w0 k (some ⟨g, 0, none⟩) cg va vc vd vh vb vw wx) (hk : k < p.rules.length) (o : Obj) :
    FreeSt p w0 (k + 1) (some ⟨g, 0, none⟩) cg va vc vd vh vb vw ((wx.setCell ⟨g, k * 6, none⟩ (.bool (decide (0 < (ixR p.rules k).head.length)))).alloc o) := by
  obtain ⟨g', D, e, hg, hD, hc⟩ := h.rows (by omega)
  cases e
  have hbs := h.below.size
  have hb1 : Below w0.heap.size w0 (wx.setCell ⟨g, k * 6, none⟩ (.bool (decide (0 < (ixR p.rules k).head.length)))) := h.below.setCell (p := ⟨g, k * 6, none⟩) (by show w0.heap.size ≤ g; omega) _
  refine ⟨(h.box.setOther _ _ (by omega)).alloc o, h.cap, fun _ => ⟨g, _, rfl, hg, (hD.set (k * 6) _).alloc o, fun i hi j hj => ?_⟩, hb1.alloc hb1.size o⟩
  by_cases e : i * 6 + j = k * 6
  · obtain rfl : i = k := by omega
    obtain rfl : j = 0 := by omega
    have h1 := (List.getElem?_eq_some_iff.1 (hc i hi 0 (by omega))).1
    rw [e, List.getElem?_set_self (by omega), if_pos (by omega)]
    rfl
  · rw [List.getElem?_set_ne (by omega), hc i hi j hj]
    by_cases e2 : i = k
    · subst e2
      rw [if_neg (by omega), if_pos (by omega)]
      rcases (show j = 1 ∨ j = 2 ∨ j = 3 ∨ j = 4 ∨ j = 5 by omega) with rfl | rfl | rfl | rfl | rfl <;> rfl
    · by_cases e3 : i < k
      · rw [if_pos e3, if_pos (by omega)]
      · rw [if_neg e3, if_neg (by omega)]

theorem FreeSt.rules {p : GP} {w w0 wx : World} {cg : Nat} {ag : Option Addr} {va vc vd : Value} {vh vb vw : Nat → Value} (h : FreeSt p w0 p.rules.length ag cg va vc vd vh vb vw wx) (hsl : ∀ i, i < p.rules.length → RuleSl w (ixR p.rules i) (vh i) (vb i) (vw i)) (hb : Below w.heap.size w wx) (hl : p.rules.length ≤ 40000) :
    RulesIs wx (.slice ag p.rules.length cg) p.free.rules := by
  refine ⟨vh, vb, vw, ?_, fun i hi => ?_⟩
  · rw [free_len]
    refine ⟨ag, cg, rfl, h.cap.1, h.cap.2, by omega, fun hp => ?_⟩
    obtain ⟨g, D, e, hg, hD, hc⟩ := h.rows hp
    refine ⟨g, 0, e, hD.lt, fun i hi j hj => ?_⟩
    rw [Nat.zero_add, hD.cell, hc i hi j hj, if_pos hi, ← free_at hi]
  · rw [free_len] at hi
    rw [free_at hi]
    have h1 := (hsl i hi).below hb
    exact ⟨h1.head, h1.body, h1.wts, h1.bound⟩

theorem pow64 {k : Nat} (h : k ≤ 6) : wrap64 (2 ^ k) ≤ 64 := by
  rcases (show k = 0 ∨ k = 1 ∨ k = 2 ∨ k = 3 ∨ k = 4 ∨ k = 5 ∨ k = 6 by omega) with rfl | rfl | rfl | rfl | rfl | rfl | rfl <;> (unfold wrap64; omega)

def insB (U S : List Int) (j : Nat) : Bool := allR j (fun t => decide (ix S t ∈ U))
def liveB (a S : List Int) (j : Nat) : Bool := allR j (fun t => !offB a (ix S t))

def ChkRel (w0 : World) (U a S : List Int) (x y i : Value) (wx : World) : Prop := ∃ j : Nat, j ≤ S.length ∧ i = .int .i64 j ∧ x = .bool (insB U S j) ∧ y = .bool (liveB a S j) ∧ wx = w0

def BitRel (w0 : World) (i : Value) (wx : World) : Prop := ∃ m : Int, 1 ≤ m ∧ m ≤ 64 ∧ i = .int .i64 m ∧ Below w0.heap.size w0 wx

set_option maxHeartbeats 4000000 in
set_option maxRecDepth 100000 in
theorem unf_walk (v va : Value) (p : GP) (a : List Int) (w : World) (h : ProgIs w v p) (ha : Bytes8 w va a) :
    Calls Try.prog 3 #[v, va] w fun e w' => e = .returned (.bool true) ∧ Below w.heap.size w w' := by
  have h0 := h
  obtain ⟨vn, vs, vr, vm, rfl, hn, hnames, hshown, hrules, hmin⟩ := h
  obtain ⟨a0, c0, rfl, -, hl0, -⟩ := hnames.form
  obtain ⟨a1, c1, rfl, -, hl1, -, hcellR⟩ := hrules.form
  obtain ⟨a3, c3, rfl, -⟩ := hshown.form
  obtain ⟨a4, c4, rfl, -⟩ := hmin.form
  have ha0 := ha
  obtain ⟨⟨aa, ca, rfl, hca1, hca2, hca3, hcella⟩, hfita⟩ := ha
  have hal := bal (Below.refl w.heap.size w) (.cells #[.int .i64 p.n, .slice a0 p.names.length c0, .slice a3 p.shown.length c3, .slice a1 p.rules.length c1, .slice a4 p.min.length c4] 27)
  have HP := Lib.hid (h0.below hal)
  have HA := Lib.hid (ha0.below hal)
  have HCR := Lib.hid hcellR
  have HR := Lib.hid hrules
  have hbk : Blk (w.alloc (.cells #[.int .i64 p.n, .slice a0 p.names.length c0, .slice a3 p.shown.length c3, .slice a1 p.rules.length c1, .slice a4 p.min.length c4] 27)) w.heap.size [.int .i64 p.n, .slice a0 p.names.length c0, .slice a3 p.shown.length c3, .slice a1 p.rules.length c1, .slice a4 p.min.length c4] 27 := Blk.new w _ _
  have HBK := Lib.hid hbk
  clear hbk hnames hshown hmin h0 ha0 hcellR hrules hcella hfita
  cases hfew : fewB p with
  | false =>
    go_enter Try.func3, Try.ntmps3
    go_wp2_with (first | (go_at_call 5; (with_reducible refine (few_any _ p _ HP.out).mono ?_); rintro e w1 ⟨h1, hb1⟩; rw [hfew] at h1; subst h1; have hc1 := bcell hb1; have HW1 := Lib.hid (bon hal hb1); have hz1 : w.heap.size < w1.heap.size := (by have := hb1.size; simp at this; omega)) | (go_at_call 7; (with_reducible refine (awake_any _).mono ?_); rintro e w3 ⟨rfl, hb3⟩))
    go_ret
    exact ⟨rfl, bon HW1.out hb3⟩
  | true =>
    by_cases h6 : p.n ≤ 6
    · by_cases hv : validE p = 0
      · have hve : (validE p != 0) = false := by simp [hv]
        have HV := Lib.hid hv
        have hV := validP hv
        have hpn := hV.n
        have hpr := hV.rules
        clear hv hV
        have hmm := @run_makeMap Try.prog
        go_enter Try.func3, Try.ntmps3
        go_upto_region 6 with (first | (go_at_call 5; (with_reducible refine (few_any _ p _ HP.out).mono ?_); rintro e w1 ⟨h1, hb1⟩; rw [hfew] at h1; subst h1; have hc1 := bcell hb1; have HW1 := Lib.hid (bon hal hb1); have hz1 : w.heap.size < w1.heap.size := (by have := hb1.size; simp at this; omega)) | (go_at_call 6; (with_reducible refine (valid_any _ p _ (HP.out.below hb1)).mono ?_); rintro e w2 ⟨rfl, hb2⟩; have hc2 := bcell hb2; have HW2 := Lib.hid (bon HW1.out hb2); have hz2 : w.heap.size < w2.heap.size := (by have := hb2.size; omega)) | (go_at_call 8; (with_reducible refine (new_valid (HP.out.below (bon hb1 hb2)) HV.out).mono ?_); rintro e w3 ⟨s, rfl, hb3, hsH, hs3⟩; have HW3 := Lib.hid (bon (bon hb1 hb2) hb3); have HSR := Lib.hid hs3))
        go_wp2_with fail
        have hHW : (w.alloc (.cells #[.int .i64 p.n, .slice a0 p.names.length c0, .slice a3 p.shown.length c3, .slice a1 p.rules.length c1, .slice a4 p.min.length c4] 27)).heap.size ≤ s.H := by rw [hsH]; exact (bon hb1 hb2).size
        have hnW : w.heap.size < (w.alloc (.cells #[.int .i64 p.n, .slice a0 p.names.length c0, .slice a3 p.shown.length c3, .slice a1 p.rules.length c1, .slice a4 p.min.length c4] 27)).heap.size := by simp
        clear hc1 hc2 hb1 hb2 hb3 hs3 hsH hz1 hz2 HW1 HW2
        generalize w.alloc (.cells #[.int .i64 p.n, .slice a0 p.names.length c0, .slice a3 p.shown.length c3, .slice a1 p.rules.length c1, .slice a4 p.min.length c4] 27) = W0 at *
        go_upto_region 7 with (go_at_call 9; (with_reducible refine (find_any HSR.out (zero_inv p) (by omega) _ (HA.out.below HW3.out)).mono ?_); rintro e w4 ⟨hl4, F, K, clk, vo, hf4, hc4, hs4, rfl, hq4⟩; have hfb := findPost_below ⟨hl4, F, K, clk, vo, hf4, hc4, hs4, rfl, hq4⟩ hHW HSR.out.lo HW3.out.size; have HB4 := Lib.hid (HW3.out.trans hfb); have HFND := Lib.hid (Found.fnd HV.out hf4); have HU := Lib.hid (hq4.ints (findTo_small F a (by omega))); obtain ⟨avo, cvo, rfl, -, hul, -, hucell⟩ := HU.out.form; have HUC := Lib.hid hucell; clear hl4 hf4 hc4 hs4 hq4 hfb hucell)
        have HUNF : Hid (0 < (findTo F a p.n.toNat).length → unfB p a (findTo F a p.n.toNat) = true) := Lib.hid (find_unf HV.out HFND.out)
        have HMEM : Hid (∀ x, x ∈ findTo F a p.n.toNat → 1 ≤ x ∧ x ≤ p.n ∧ offB a x = false) := Lib.hid (fun x hx => by have := (find_mem _).1 hx; exact ⟨this.1, by omega, this.2.2.2⟩)
        have HIN : Hid (∀ S : List Int, (∀ x ∈ S, 1 ≤ x ∧ x ≤ p.n) → (∀ x ∈ S, offB a x = false) → allExc p.free S a = true → ∀ x ∈ S, x ∈ findTo F a p.n.toNat) := Lib.hid (fun S h1 h2 h3 => free_inside HV.out HFND.out h1 h2 h3)
        have huln := findTo_len F a p.n.toNat
        generalize findTo F a p.n.toNat = U at *
        have kx4 := fun o => (bcell HB4.out _ o HBK.out.lt).trans (HBK.out.cell o)
        go_cut [53] from 44 to 53 (fun t wx => t = .bool false ∧ Below w4.heap.size w4 wx)
        case first =>
          by_cases h0 : 0 < U.length
          · have HUF := Lib.hid (HUNF.out h0)
            go_wp2_with (go_at_call 10; (with_reducible refine (unfounded_any _ _ _ p a U _ (HP.out.below HB4.out) (HA.out.below HB4.out) HU.out).mono ?_); rintro e w5 ⟨e5, hb5⟩; rw [HUF.out] at e5; subst e5; have HB5 := Lib.hid hb5; clear hb5)
            go_meet
            case rel => exact ⟨rfl, HB5.out⟩
          · go_wp2_with fail
            go_meet
            case rel => exact ⟨rfl, Below.refl _ _⟩
        case rest =>
          obtain ⟨rfl, hbc⟩ := hcut
          obtain ⟨wm, rfl⟩ : ∃ wo : World, wo = wc := ⟨_, rfl⟩
          have HBC := Lib.hid (HB4.out.trans (hbc.mono HB4.out.size))
          have HUc := Lib.hid (HU.out.below hbc)
          clear hbc kx4
          obtain ⟨_, _, eU, -, -, -, hcU⟩ := HUc.out.form
          cases eU
          have hsz0 := HBC.out.size
          go_upto_region 11 with fail
          have hst0 : MemSt wm wm.heap.size U 0 (wm.alloc (.map #[] 0)) := MemSt.start wm U
          go_loopw [57] (fun i wx => MemRel wm wm.heap.size U i wx) (fun i _ => U.length - (intOf i).toNat)
          case atStart => exact ⟨0, Nat.zero_le _, rfl, hst0⟩
          case round =>
            obtain ⟨k, hk, rfl, hst⟩ := hrel
            have HST := Lib.hid hst
            obtain ⟨G, hmap, hG, hbl⟩ := hst
            have HBL := Lib.hid hbl
            have HMAP := Lib.hid hmap
            have HG := Lib.hid hG
            by_cases hlt : k < U.length
            · obtain ⟨bu', offu', hab', hbu', hcu'⟩ := hcU (by omega)
              subst hab'
              have hcx : wr.cell? ⟨bu', offu' + k, none⟩ = some (.int .i64 (ix U k)) := (bcell hbl _ _ hbu').trans (hcu' k hlt)
              have hlk := mapI_look hmap (ix U k)
              have hGk := hG (ix U k)
              have hGb : 0 ≤ G (ix U k) ∧ G (ix U k) ≤ 6 := by omega
              have hmx := HMEM.out (ix U k) (ix_mem hlt)
              have HOF := Lib.hid hmx.2.2
              have hx0 : ix U k ≠ 0 := by omega
              have hx1 : -4611686018427387904 ≤ ix U k ∧ ix U k ≤ 4611686018427387904 := by omega
              have HX0 := Lib.hid hx0
              have HX1 := Lib.hid hx1
              clear hcu' hcU hmap hG hbl hGk hmx hx0 hx1
              go_wp2_with (first
                | (go_at_call 11; (with_reducible refine (off33_any _ a _ (HA.out.below (HBC.out.trans (HBL.out.mono hsz0))) (ix U k) HX0.out HX1.out).mono ?_); rintro e w6 ⟨e6, rfl⟩; rw [HOF.out] at e6; subst e6)
                | (at_mapUpdate; refine wpList_mput _ _ (ix U k) (.int .i64 (G (ix U k) + 1)) kvInt 38 3 3 Try.underlying38 Try.underlying3 rfl _ _ _ rfl rfl rfl rfl HMAP.out ?_; intro w7 hm7 hg7 hs7; have HS7 := Lib.hid (MemSt.put HG.out HBL.out hlt hm7 hg7); clear hm7 hg7 hs7))
              first
                | (go_roundw
                   case rel => (exact ⟨k + 1, hlt, by go_num, HS7.out⟩)
                   case measure => (simp [intOf]; omega))
                | (refine ⟨?_, ?_⟩
                   · (exact ⟨k + 1, hlt, by go_num, HS7.out⟩)
                   · (simp [intOf]; omega))
            · obtain rfl : k = U.length := by omega
              have HGM : Hid (∀ y, 0 < G y ↔ y ∈ U) := Lib.hid (fun y => by have := (HG.out y).2.2; rwa [List.take_length] at this)
              have hkx := fun o => (bcell (HBC.out.trans (HBL.out.mono hsz0)) _ o HBK.out.lt).trans (HBK.out.cell o)
              clear hmap hG hbl
              have hrow0 := HR.out
              obtain ⟨vh, vb, vw, hrows, hsls⟩ := hrow0
              have hbwr : Below w.heap.size w wr := hal.trans ((HBC.out.trans (HBL.out.mono hsz0)).mono hal.size)
              have HBWR := Lib.hid hbwr
              have HROWS := Lib.hid hrows
              have HSLS := Lib.hid hsls
              clear hrows hsls hbwr
              go_upto_region 18 with fail
              have hboxF := Blk.new wr [.int .i64 p.n, .slice a0 p.names.length c0, .slice a3 p.shown.length c3, .slice a1 p.rules.length c1, .slice a4 p.min.length c4] 27
              have hbF := bal (Below.refl wr.heap.size wr) (.cells #[.int .i64 p.n, .slice a0 p.names.length c0, .slice a3 p.shown.length c3, .slice a1 p.rules.length c1, .slice a4 p.min.length c4] 27)
              have HBF := Lib.hid hbF
              have HBOXF := Lib.hid hboxF
              have hzwr : w.heap.size < wr.heap.size := by have h1 := HBC.out.size; have h2 := HBL.out.size; omega
              clear hboxF hbF
              go_cut [] (fun wx => ∃ ag cg, FreeSt p wr 0 ag cg (.slice a0 p.names.length c0) (.slice a3 p.shown.length c3) (.slice a4 p.min.length c4) vh vb vw wx)
              case first =>
                generalize wr.alloc (.cells #[.int .i64 p.n, .slice a0 p.names.length c0, .slice a3 p.shown.length c3, .slice a1 p.rules.length c1, .slice a4 p.min.length c4] 27) = W5 at *
                have hkx5 := fun o => (bcell HBF.out _ o hzwr).trans (hkx o)
                have hlt5 := HBOXF.out.lt
                have hz5 : w.heap.size < W5.heap.size := by omega
                have HB6 : Hid (Below W5.heap.size W5 (W5.alloc (.cells #[] 41))) := Lib.hid (bal (Below.refl _ _) _)
                have HBW6 : Hid (Below w.heap.size w (W5.alloc (.cells #[] 41))) := Lib.hid (bal (bon HBWR.out HBF.out) _)
                go_wp2_with (at_builtin; refine wpList_copyR rfl _ _ _ rfl _ rfl rfl (HROWS.out.below HBW6.out) (fun i hi => (HSLS.out i hi).below HBW6.out) hpr ?_; intro ag cg w7 hc7; have HC7 := Lib.hid hc7; have kf7 := (HBOXF.out.below (bon HB6.out hc7.2.2.1)).cell; have ff7 := (HBOXF.out.below (bon HB6.out hc7.2.2.1)).free; clear hc7)
                go_meet
                case rel => exact ⟨ag, cg, FreeSt.start HBF.out HBOXF.out HC7.out⟩
              case rest =>
                obtain ⟨ag, cg, hfs⟩ := hcut
                have HFS := Lib.hid hfs
                have kb := hfs.box.cell
                clear hfs
                go_upto_region 20 with fail
                obtain ⟨wo, rfl⟩ : ∃ wo : World, wo = wr := ⟨_, rfl⟩
                clear kb
                go_loopw [78] (fun i wx => FreeRel p wo ag cg (.slice a0 p.names.length c0) (.slice a3 p.shown.length c3) (.slice a4 p.min.length c4) vh vb vw i wx) (fun i _ => p.rules.length - (intOf i).toNat)
                case atStart => exact ⟨0, Nat.zero_le _, rfl, HFS.out⟩
                case round =>
                  obtain ⟨k, hk, rfl, hfs⟩ := hrel
                  have HFS2 := Lib.hid hfs
                  have kb := hfs.box.cell
                  have hfb := hfs.box.lt
                  by_cases hlt : k < p.rules.length
                  · obtain ⟨g, D, rfl, hg, hbD, hD⟩ := hfs.rows (by omega)
                    have hgl := hbD.lt
                    have kD : ∀ j, j < 6 → wr.cell? ⟨g, k * 6 + j, none⟩ = some (ruleCell (ixR p.rules k) (vh k) (vb k) (vw k) j) := fun j hj => by
                      rw [hbD.cell, hD k hlt j hj, if_neg (Nat.lt_irrefl _)]
                    have r0 : wr.cell? ⟨g, k * 6, none⟩ = some (.bool (ixR p.rules k).choice) := kD 0 (by omega)
                    have r1 := kD 1 (by omega)
                    have r2 : wr.cell? ⟨g, k * 6 + 2, none⟩ = some (.bool (ixR p.rules k).sum) := kD 2 (by omega)
                    have r3 : wr.cell? ⟨g, k * 6 + 3, none⟩ = some (.int .i64 (ixR p.rules k).bound) := kD 3 (by omega)
                    have r4 := kD 4 (by omega)
                    have r5 := kD 5 (by omega)
                    have hsl := HSLS.out k hlt
                    obtain ⟨x1, y1, e1, -, g1, -, -⟩ := hsl.head.form
                    obtain ⟨x2, y2, e2, -, g2, -, -⟩ := hsl.body.form
                    obtain ⟨x3, y3, e3, -, g3, -, -⟩ := hsl.wts.form
                    simp only [ruleCell, e1] at r1
                    simp only [ruleCell, e2] at r4
                    simp only [ruleCell, e3] at r5
                    have ff := hbD.free (k * 6)
                    clear hsl hD kD hfs e1 e2 e3
                    go_wp2_with fail
                    first
                      | (go_roundw
                         case rel => (exact ⟨k + 1, hlt, by go_num, HFS2.out.step hlt _⟩)
                         case measure => (simp [intOf]; omega))
                      | (refine ⟨?_, ?_⟩
                         · (exact ⟨k + 1, hlt, by go_num, HFS2.out.step hlt _⟩)
                         · (simp [intOf]; omega))
                  · obtain rfl : k = p.rules.length := by omega
                    have hwx : Below w.heap.size w wr := HBWR.out.trans (hfs.below.mono HBWR.out.size)
                    have HRF := Lib.hid (hfs.rules HSLS.out hwx hpr)
                    have HPF : Hid (ProgIs wr (.agg #[.int .i64 p.n, .slice a0 p.names.length c0, .slice a3 p.shown.length c3, .slice ag p.rules.length cg, .slice a4 p.min.length c4]) p.free) := Lib.hid (by
                      obtain ⟨vn, vs, vr, vm, e, hps⟩ := HP.out
                      cases e
                      have hb0 : Below W0.heap.size W0 wr := (HBC.out.trans (HBL.out.mono hsz0)).trans (hfs.below.mono (Nat.le_trans hsz0 HBL.out.size))
                      exact ⟨_, _, _, _, rfl, hps.n, hps.names.below hb0, hps.shown.below hb0, HRF.out, hps.min.below hb0⟩)
                    have HBX := Lib.hid hfs.below
                    clear hfs hwx kb hfb
                    have HSF := Lib.hid HFS2.out.box
                    have hzf := HFS2.out.box.lt
                    have hzx := HBX.out.size
                    clear HFS2 HFS
                    go_upto_region 25 with fail
                    obtain ⟨wp, rfl⟩ : ∃ wo : World, wo = wr := ⟨_, rfl⟩
                    go_loopw [14] (fun i wx => BitRel wp i wx) (fun i _ => (100 - intOf i).toNat)
                    case atStart => exact ⟨1, by omega, by omega, rfl, Below.refl _ _⟩
                    case round =>
                      obtain ⟨m, hm1, hm2, rfl, hbx⟩ := hrel
                      have HBM := Lib.hid hbx
                      have kp := fun o => (bcell (HBX.out.trans (hbx.mono hzx)) _ o hzwr).trans (hkx o)
                      have kf := fun o => (bcell hbx _ o hzf).trans (HSF.out.cell o)
                      clear hbx
                      have hw64 : wrap64 (2 ^ p.n.toNat) ≤ 64 := pow64 (by omega)
                      by_cases hlt3 : m < wrap64 (2 ^ p.n.toNat)
                      · go_upto_region 30 with (go_at_call 12; (with_reducible refine (subset_any p.n m _ hpn).mono ?_); rintro e w8 ⟨as8, ms8, cs8, S, rfl, hqS, hlS, hmS, hbS⟩; have HIS := Lib.hid (hqS.ints (by omega)); have HMS := Lib.hid hmS; have HBS := Lib.hid hbS; clear hqS hmS hbS; obtain ⟨_, _, eS, -, -, -, hcS⟩ := HIS.out.form; cases eS)
                        obtain ⟨wq, rfl⟩ : ∃ wo : World, wo = wr := ⟨_, rfl⟩
                        go_loopw [16, 17, 106] (fun x y i wx => ChkRel w8 U a S x y i wx) (fun _ _ i _ => S.length - (intOf i).toNat)
                        case atStart => exact ⟨0, Nat.zero_le _, rfl, rfl, rfl, rfl⟩
                        case round =>
                          obtain ⟨j, hj, rfl, rfl, rfl, rfl⟩ := hrel
                          have HB8 : Hid (Below W0.heap.size W0 wr) := Lib.hid ((HBC.out.trans (HBL.out.mono hsz0)).trans ((HBX.out.trans ((bon HBM.out HBS.out).mono hzx)).mono (Nat.le_trans hsz0 HBL.out.size)))
                          by_cases hltj : j < S.length
                          · obtain ⟨b8, off8, hab8, hb8, hc8⟩ := hcS (by omega)
                            subst hab8
                            have hcx := hc8 j hltj
                            have HM9 := Lib.hid (HMAP.out.below ((HBX.out.trans ((bon HBM.out HBS.out).mono hzx))))
                            have hlk := mapI_look HM9.out (ix S j)
                            have hGb : 0 ≤ G (ix S j) ∧ G (ix S j) ≤ 10 := by have := HG.out (ix S j); omega
                            have hgm := HGM.out (ix S j)
                            have hmx := HMS.out (ix S j) (ix_mem hltj)
                            have hx0 : ix S j ≠ 0 := by omega
                            have hx1 : -4611686018427387904 ≤ ix S j ∧ ix S j ≤ 4611686018427387904 := by omega
                            have HX0 := Lib.hid hx0
                            have HX1 := Lib.hid hx1
                            have HI1 : Hid (insB U S (j + 1) = (insB U S j && decide (0 < G (ix S j)))) := Lib.hid (by unfold insB; rw [allR_succ]; congr 1; exact decide_eq_decide.2 hgm.symm)
                            have HL1 : Hid (liveB a S (j + 1) = (liveB a S j && !offB a (ix S j))) := Lib.hid (by unfold liveB; rw [allR_succ])
                            clear hgm hmx hx0 hx1 hc8 hcS
                            cases hi : insB U S j <;> cases hl : liveB a S j <;> rw [hi] at HI1 <;> rw [hl] at HL1
                            all_goals (go_wp2_with (go_at_call 11; (with_reducible refine (off33_any _ a _ (HA.out.below HB8.out) (ix S j) HX0.out HX1.out).mono ?_); rintro e w6 ⟨rfl, rfl⟩))
                            all_goals first
                                        | (go_roundw
                                           case rel => (exact ⟨j + 1, hltj, by go_num, (by rw [HI1.out]; rfl), (by rw [HL1.out]; rfl), rfl⟩)
                                           case measure => (simp [intOf]; omega))
                                        | (refine ⟨?_, ?_⟩
                                           · (exact ⟨j + 1, hltj, by go_num, (by rw [HI1.out]; rfl), (by rw [HL1.out]; rfl), rfl⟩)
                                           · (simp [intOf]; omega))
                          · obtain rfl : j = S.length := by omega
                            have HNU : Hid (liveB a S S.length = true → insB U S S.length = false → unfB p.free a S = false) := Lib.hid (fun h1 h2 => by
                              cases hu : unfB p.free a S with
                              | false => rfl
                              | true =>
                                unfold unfB at hu
                                simp only [Bool.and_eq_true] at hu
                                have h3 := HIN.out S HMS.out (fun x hx => by
                                  obtain ⟨t, ht, rfl⟩ := mem_ix.1 hx
                                  have := allR_get h1 t ht
                                  simpa using this) hu.2.2
                                have h4 : insB U S S.length = true := allR_true fun t ht => decide_eq_true (h3 _ (ix_mem ht))
                                rw [h4] at h2
                                cases h2)
                            have hbS := HBS.out
                            have kf8 := fun o => (bcell hbS _ o (Nat.lt_of_lt_of_le hzf HBM.out.size)).trans (kf o)
                            have HB9 : Hid (Below wp.heap.size wp wr) := Lib.hid (bon HBM.out hbS)
                            clear hbS hcS
                            have g0 := kf8 0
                            have g1 := kf8 1
                            have g2 := kf8 2
                            have g3 := kf8 3
                            have g4 := kf8 4
                            have hm64 : m < 64 := Int.lt_of_lt_of_le hlt3 hw64
                            clear kp kf hkx kf8 hw64 hlt3
                            cases hi : insB U S S.length <;> cases hl : liveB a S S.length
                            case false.true =>
                              have HNF := Lib.hid (HNU.out hl hi)
                              clear hi hl HNU
                              go_wp2_with (go_at_call 10; (with_reducible refine (unfounded_any _ _ _ p.free a S _ (HPF.out.below HB9.out) (HA.out.below HB8.out) HIS.out).mono ?_); rintro e w9 ⟨e9, hb9⟩; rw [HNF.out] at e9; subst e9; have HBE := Lib.hid (bon HB9.out hb9); clear hb9)
                              first
                                | (go_roundw
                                   case rel => (exact ⟨m + 1, by omega, by omega, by go_num, HBE.out⟩)
                                   case measure => (simp [intOf]; omega))
                                | (refine ⟨?_, ?_⟩
                                   · (exact ⟨m + 1, by omega, by omega, by go_num, HBE.out⟩)
                                   · (simp [intOf]; omega))
                            all_goals clear hi hl HNU g0 g1 g2 g3 g4
                            all_goals go_wp2_with fail
                            all_goals first
                                        | (go_roundw
                                           case rel => (exact ⟨m + 1, by omega, by omega, by go_num, HB9.out⟩)
                                           case measure => (simp [intOf]; omega))
                                        | (refine ⟨?_, ?_⟩
                                           · (exact ⟨m + 1, by omega, by omega, by go_num, HB9.out⟩)
                                           · (simp [intOf]; omega))
                      · go_wp2_with (go_at_call 7; (with_reducible refine (awake_any _).mono ?_); rintro e w8 ⟨rfl, hb8⟩)
                        go_ret
                        exact ⟨rfl, HBWR.out.trans ((HBX.out.trans ((bon HBM.out hb8).mono hzx)).mono HBWR.out.size)⟩
      · have hve : (validE p != 0) = true := by simp [hv]
        clear hv
        go_enter Try.func3, Try.ntmps3
        go_wp2_with (first | (go_at_call 5; (with_reducible refine (few_any _ p _ HP.out).mono ?_); rintro e w1 ⟨h1, hb1⟩; rw [hfew] at h1; subst h1; have hc1 := bcell hb1; have HW1 := Lib.hid (bon hal hb1); have hz1 : w.heap.size < w1.heap.size := (by have := hb1.size; simp at this; omega)) | (go_at_call 6; (with_reducible refine (valid_any _ p _ (HP.out.below hb1)).mono ?_); rintro e w2 ⟨rfl, hb2⟩; have hc2 := bcell hb2; have HW2 := Lib.hid (bon HW1.out hb2); have hz2 : w.heap.size < w2.heap.size := (by have := hb2.size; omega)) | (go_at_call 7; (with_reducible refine (awake_any _).mono ?_); rintro e w3 ⟨rfl, hb3⟩))
        go_ret
        exact ⟨rfl, bon HW2.out hb3⟩
    · go_enter Try.func3, Try.ntmps3
      go_wp2_with (first | (go_at_call 5; (with_reducible refine (few_any _ p _ HP.out).mono ?_); rintro e w1 ⟨h1, hb1⟩; rw [hfew] at h1; subst h1; have hc1 := bcell hb1; have HW1 := Lib.hid (bon hal hb1); have hz1 : w.heap.size < w1.heap.size := (by have := hb1.size; simp at this; omega)) | (go_at_call 7; (with_reducible refine (awake_any _).mono ?_); rintro e w3 ⟨rfl, hb3⟩))
      go_ret
      exact ⟨rfl, bon HW1.out hb3⟩

theorem unf_law {v va : Value} {p : GP} {a : List Int} {W : World} (h : ProgIs W v p) (ha : Bytes8 W va a) : Calls Try.prog 3 #[v, va] W fun e w' => e = .returned (.bool true) ∧ Below W.heap.size W w' :=
  unf_walk v va p a W h ha

end Go.Proofs.Ytjmponiecekodaa
