/- My texts Lp9, Lp10, Cm3, Cm2, Shelf, Bld, Pb1, Pb2, merged. -/
import Derived.Test.YtjodocheiejkeaaGreatDoorM06
import Derived.Test.YtjodocheiejkeaaGreatDoorM04
import Derived.Test.YtjodocheiejkeaaGreatDoorM03
import Derived.Test.YtjodocheiejkeaaGreatDoorM00
import Derived.Test.YtjodocheiejkeaaGreatDoorProg
import Derived.WalkKit
import Derived.Lib.Hide
import Derived.Deep.QuietTactic
import Derived.BigQuiet
import Derived.Lib.Bytealg
import Derived.MapKept
import Derived.Maps.OwnSet
import Derived.Maps.OwnOps
import Derived.Test.YtjodocheiejkeaaGreatDoorM02
import Derived.WalkSpells
import Derived.Lib.SliceRun
import Derived.Test.YtjodocheiejkeaaGreatDoorM01
import Derived.Deep.AppendLies
import Derived.Deep.DeepCutAuto
import Derived.RangeFuncNested
import Derived.RangeFuncBound
import Derived.RangeFuncCalls
import Derived.RangeFuncLeaves
import Derived.OwnWalkIn
import Derived.TacticsInMore
import Derived.LoopNIn
import Derived.LoopIn
import Derived.Stop.RegionWithIn
import Derived.Shelf.Abstract
import Derived.Test.YtjodocheiejkeaaGreatDoorM05
import Derived.Laws.EntriesVeiled
import Derived.Deep.RegionWith
import Derived.Deep.OwnRows
import Derived.Shelf.Sort.Plain
import Derived.Shelf.Slices.CompactI
import Derived.Shelf.Slices.In.SortNone
import Derived.Shelf.Strconv.Itoa3
import Derived.Shelf.Strings.BuilderK

namespace Go.Proofs.YtjodocheiejkeaaGreatDoor
open Go.RowKit Go.Shelf
attribute [local go_sem] Oper.semAt_some
theorem blk_own {β : Type} (b : Nat) (c : List Value) (t : TypeId) : Own (fun (_ : β) W => Blk W b c t) := fun s X Y row hs hg hrow => by
  have hne : some b ≠ row := fun e' => by
    obtain ⟨_, ho, hc⟩ := hrow b e'.symm
    rw [show X.heap[b]? = _ from hs] at ho
    cases ho
    cases hc
  exact hs.same (hg.block b hs.lt hne)
theorem keeps_below {B : Nat} {W W' : World} (h : Below W.heap.size W W') : KeepsFrom B W W' := ⟨h.size, fun k _ _ hk _ => (h.block k (Array.getElem?_eq_some_iff.1 hk).1).trans hk⟩
theorem SupV.form {w : World} (x : SupV w) : ∃ vh vb vw vs, x.1.1 = .agg #[.bool x.1.2.r.choice, vh, .bool x.1.2.r.sum, .int .i64 x.1.2.r.bound, vb, vw, .int .i64 x.1.2.b, vs] ∧ (∃ a n c, vh = .slice a n c) ∧ (∃ a n c, vb = .slice a n c) ∧ (∃ a n c, vw = .slice a n c) ∧ ∃ a n c, vs = .slice a n c := by
  obtain ⟨vh, vb, vw, vs, e, h1, h2, h3⟩ := x.2.1
  obtain ⟨⟨_, _, e1, -⟩, -⟩ := h1.head
  obtain ⟨⟨_, _, e2, -⟩, -⟩ := h1.body
  obtain ⟨⟨_, _, e3, -⟩, -⟩ := h1.wts
  obtain ⟨⟨_, _, e4, -⟩, -⟩ := h2
  exact ⟨_, _, _, _, e, ⟨_, _, _, e1⟩, ⟨_, _, _, e2⟩, ⟨_, _, _, e3⟩, ⟨_, _, _, e4⟩⟩
end Go.Proofs.YtjodocheiejkeaaGreatDoor
namespace Go.Proofs.YtjodocheiejkeaaGreatDoor
open Go.RowKit
theorem ruleE_at {p : GP} (h : validE p = 0) {i : Nat} (hi : i < p.rules.length) : ruleE (ixR p.rules i) p.n = 0 := by
  unfold validE at h
  split at h
  · omega
  split at h
  · omega
  split at h
  · rename_i h3; exact absurd h h3
  rename_i h3
  exact rulesFrom_zero p.rules.length 0 (Decidable.not_not.1 h3) i (by omega) (by omega)
theorem rule_bound {r : GR} {n : Int} (h : ruleE r n = 0) : 0 ≤ r.bound ∧ r.bound ≤ 1048576 := by
  unfold ruleE at h
  grind
theorem inc_pos {l : List Int} {n : Int} (h : increasingB l n = true) {j : Nat} (hj : j < l.length) : 0 < ix l j ∧ ix l j ≤ n := by
  have h1 := ordered_lit (increasing_ordered h) (ix_mem hj)
  unfold increasingB at h
  simp only [Bool.and_eq_true] at h
  have h2 := allR_get h.2 j hj
  simp only [decide_eq_true_eq] at h2
  omega
theorem inc_ge {l : List Int} {n : Int} (h : increasingB l n = true) : ∀ j : Nat, j < l.length → (j : Int) + 1 ≤ ix l j
  | 0, hj => by have := inc_pos h hj; omega
  | j + 1, hj => by
    have h1 := inc_ge h j (by omega)
    have h2 := ordered_lt (increasing_ordered h) (j + 1) hj j (by omega)
    have h3 := inc_pos h hj
    have h4 := inc_pos h (show j < l.length by omega)
    unfold litKey at h2
    rw [if_pos (by omega), if_pos (by omega)] at h2
    omega
def CntSt (W0 : World) (bm : Nat) (P : Int → Prop) (B : Int) (wx : World) : Prop :=
  ∃ G, MapIs (Value.int .i64) wx bm (mapI G) ∧ (∀ y, 0 ≤ G y ∧ G y ≤ B ∧ (0 < G y ↔ P y)) ∧ Below W0.heap.size W0 wx
theorem CntSt.start (W0 : World) : CntSt W0 W0.heap.size (fun _ => False) 0 (W0.alloc (.map #[] 0)) := by
  refine ⟨fun _ => 0, ?_, fun y => by simp, bal (Below.refl _ _) _⟩
  have : mapI (fun _ => 0) = fun _ => none := by funext x; simp [mapI]
  rw [this]; exact MapIs.made W0
theorem CntSt.on {W0 wx wy : World} {bm : Nat} {P : Int → Prop} {B : Int} (h : CntSt W0 bm P B wx) (hb : Below wx.heap.size wx wy) : CntSt W0 bm P B wy :=
  let ⟨G, h1, h2, h3⟩ := h; ⟨G, h1.below hb, h2, bon h3 hb⟩
theorem CntSt.same {W0 wx : World} {bm : Nat} {P Q : Int → Prop} {B C : Int} (h : CntSt W0 bm P B wx) (hp : ∀ y, P y ↔ Q y) (hB : B ≤ C) : CntSt W0 bm Q C wx :=
  let ⟨G, h1, h2, h3⟩ := h; ⟨G, h1, fun y => ⟨(h2 y).1, Int.le_trans (h2 y).2.1 hB, (h2 y).2.2.trans (hp y)⟩, h3⟩
theorem CntSt.put {W0 wx w7 : World} {bm : Nat} {P Q : Int → Prop} {B : Int} {G : Int → Int} {x : Int} (hG : ∀ y, 0 ≤ G y ∧ G y ≤ B ∧ (0 < G y ↔ P y)) (hb : Below W0.heap.size W0 wx) (hbm : W0.heap.size ≤ bm)
    (hm : MapIs (Value.int .i64) w7 bm (upd (mapI G) x (some (.int .i64 (G x + 1))))) (hg : wx.grownBy w7 (some bm)) (hQ : ∀ y, Q y ↔ P y ∨ y = x) : CntSt W0 bm Q (B + 1) w7 := by
  have hx := hG x
  have hsz := hb.size
  refine ⟨setI G x (G x + 1), by rw [mapI_set (by omega)]; exact hm, fun y => ?_, hb.trans ⟨hg.os, hg.tape, hg.output, hg.size, fun i hi => hg.block i (by omega) (fun e => by have := Option.some.inj e; omega)⟩⟩
  rw [hQ y]
  by_cases e : y = x
  · subst e
    have e2 : setI G y (G y + 1) y = G y + 1 := by simp [setI]
    rw [e2]
    exact ⟨by omega, by omega, ⟨fun _ => .inr rfl, fun _ => by omega⟩⟩
  · have e2 : setI G x (G x + 1) y = G y := by simp [setI, e]
    rw [e2]
    have := hG y
    exact ⟨this.1, by omega, ⟨fun h => .inl (this.2.2.1 h), fun h => this.2.2.2 (h.resolve_right e)⟩⟩
def suppB (p : GP) (m : List Int) : Bool := modelsB p m && allR m.length (fun j => anyR p.rules.length (fun i => bodyT (ixR p.rules i) m && decide (ix m j ∈ (ixR p.rules i).head)))
def extAt (p : GP) (m : List Int) (j : Nat) : Int := if (j : Int) < p.n then (if (j : Int) + 1 ∈ m then 1 else -1) else (if bodyT (ixR p.rules (j - p.n.toNat)) m then 1 else -1)
def extA (p : GP) (m : List Int) : List Int := if validE p = 0 ∧ setQ p.n m = true then (List.range (p.n.toNat + p.rules.length)).map (extAt p m) else []
def fnL (N : Nat) (F : Nat → Int) : List Value := (List.range N).map fun j => .int .i8 (F j)
theorem fnL_set (N : Nat) (F : Nat → Int) (q : Nat) (v : Int) : (fnL N F).set q (.int .i8 v) = fnL N (fun j => if j = q then v else F j) := by
  unfold fnL
  apply List.ext_getElem
  · simp
  · intro i h1 h2
    simp only [List.getElem_set, List.getElem_map, List.getElem_range]
    by_cases e : q = i
    · subst e; simp
    · rw [if_neg e, if_neg (fun h => e h.symm)]
theorem fnL_congr {N : Nat} {F G : Nat → Int} (h : ∀ j, j < N → F j = G j) : fnL N F = fnL N G := List.map_congr_left fun j hj => by rw [h j (List.mem_range.1 hj)]
theorem fnL_at {N : Nat} {F : Nat → Int} {j : Nat} (hj : j < N) : (fnL N F)[j]? = some (.int .i8 (F j)) := by simp [fnL, hj]
def exF1 (k j : Nat) : Int := if j < k then -1 else 0
def exF2 (m : List Int) (k j : Nat) : Int := if (j : Int) + 1 ∈ m.take k then 1 else -1
def exF3 (p : GP) (m : List Int) (k j : Nat) : Int := if (j : Int) < p.n then (if (j : Int) + 1 ∈ m then 1 else -1) else (if j - p.n.toNat < k ∧ bodyT (ixR p.rules (j - p.n.toNat)) m = true then 1 else -1)
def ExSt (W2 : World) (N : Nat) (F : Nat → Int) (wx : World) : Prop := Below W2.heap.size W2 wx ∧ Blk wx W2.heap.size (fnL N F) 60
theorem ExSt.on {W2 wx wy : World} {N : Nat} {F : Nat → Int} (h : ExSt W2 N F wx) (hb : Below wx.heap.size wx wy) : ExSt W2 N F wy := ⟨bon h.1 hb, h.2.below hb⟩
theorem ExSt.put {W2 wx : World} {N q : Nat} {F G : Nat → Int} {v : Int} (h : ExSt W2 N F wx) (hG : ∀ j, j < N → G j = if j = q then v else F j) : ExSt W2 N G (wx.setCell ⟨W2.heap.size, q, none⟩ (.int .i8 v)) := by
  refine ⟨h.1.setCell (p := ⟨W2.heap.size, q, none⟩) (Nat.le_refl _) _, ?_⟩
  have := h.2.set q (.int .i8 v)
  rw [fnL_set, fnL_congr (G := G) fun j hj => (hG j hj).symm] at this
  exact this
def ExRel (W2 : World) (N n : Nat) (F : Nat → Nat → Int) (i : Value) (wx : World) : Prop := ∃ k : Nat, k ≤ n ∧ i = .int .i64 k ∧ ExSt W2 N (F k) wx
set_option maxHeartbeats 4000000 in
set_option maxRecDepth 100000 in
theorem extend_any (v vm : Value) (p : GP) (m : List Int) (w : World) (h : ProgIs w v p) (hm : Ints w vm m) :
    Calls Tryz.prog 12 #[v, vm] w fun e w' => ∃ a c, e = .returned (.slice a (extA p m).length c) ∧ Bytes8 w' (.slice a (extA p m).length c) (extA p m) ∧ Below w.heap.size w w' := by
  have h0 := h
  obtain ⟨vn, vs, vr, vmn, rfl, hps⟩ := h
  have hal := bal (Below.refl w.heap.size w) (.cells #[.int .i64 p.n, vn, vs, vr, vmn] 27)
  have HBX := Lib.hid (Blk.new w [.int .i64 p.n, vn, vs, vr, vmn] 27)
  have kx := HBX.out.cell
  have hlt := HBX.out.lt
  have HP := Lib.hid (h0.below hal)
  have HM := Lib.hid (hm.below hal)
  obtain ⟨a1, c1, rfl, -, hl1, -, hcellR⟩ := hps.rules.form
  have HCR := Lib.hid hcellR
  have HAL := Lib.hid hal
  obtain ⟨am, cm, rfl, -, -, -, hcellm⟩ := hm.form
  have HCM := Lib.hid hcellm
  clear h0 hm hal hps hcellR hcellm
  by_cases hv : validE p = 0
  · have hve : (validE p != 0) = false := by simp [hv]
    cases hs : setQ p.n m with
    | true =>
      have HS := Lib.hid hs
      have hV := validP hv
      have hpn := hV.n
      have hpr := hV.rules
      have HBV : Hid (∀ k, k < p.rules.length → BodyV (ixR p.rules k) p.n) := Lib.hid (fun k hk => bodyV_valid hv hk)
      have hml := inc_le hs hpn.1
      have HF : Hid (extA p m = (List.range (p.n.toNat + p.rules.length)).map (extAt p m)) := Lib.hid (if_pos ⟨hv, hs⟩)
      have HMR : Hid (∀ k, k < m.length → 1 ≤ ix m k ∧ ix m k ≤ p.n) := Lib.hid (fun k hk => by
        have := allR_get hs k hk
        unfold setTo at this
        simp only [Bool.and_eq_true, decide_eq_true_eq] at this
        exact this.1)
      obtain ⟨N, hN⟩ : ∃ N : Nat, N = p.n.toNat + p.rules.length := ⟨_, rfl⟩
      have hNi : p.n + (p.rules.length : Int) = N := by omega
      have HN := Lib.hid hN
      have HNI := Lib.hid hNi
      have hN1 : N ≤ 44000 := by omega
      have hmk : ∀ w : World, (Instr.makeSlice 39 (.int .i64 (N : Int)) (.int .i64 (N : Int))).run Tryz.prog w = .ok (.slice (some ⟨w.heap.size, 0, none⟩) N N) (w.alloc (.cells (madeCells #[.int .i8 0] N) 60)) := fun w => run_make_row' _ _ _ _ Tryz.underlying39 info8 rfl .i64 .i64 N (by omega) (by omega) w
      clear hv hs hV hN
      go_enter Tryz.func12, Tryz.ntmps12
      go_upto_region 4 with (first | (go_at_call 22; (with_reducible refine (valid_any _ p _ HP.out).mono ?_); rintro e w1 ⟨e1, hb1⟩; subst e1; have kx1 := fun o => (bcell hb1 _ o hlt).trans (kx o); have hz1 := hb1.size; have HB1 := Lib.hid hb1; have hlt1 := Nat.lt_of_lt_of_le hlt hz1; clear hb1) | (go_at_call 39; (with_reducible refine (cset_any _ _ p m _ (HP.out.below HB1.out) (HM.out.below HB1.out)).mono ?_); rintro e w2 ⟨e2, hb2⟩; rw [HS.out] at e2; subst e2; have kx2 := fun o => (bcell hb2 _ o hlt1).trans (kx1 o); have HB2 := Lib.hid (bon HB1.out hb2); have hlt2 := Nat.lt_of_lt_of_le hlt1 hb2.size; clear hb2))
      have hst : ExSt w2 N (exF1 0) (w2.alloc (.cells (madeCells #[.int .i8 0] N) 60)) := by
        refine ⟨bal (Below.refl _ _) _, ?_⟩
        have := Blk.new w2 (List.replicate N (Value.int .i8 0)) 60
        rw [← made_list] at this
        have e : fnL N (exF1 0) = List.replicate N (Value.int .i8 0) := by
          unfold fnL exF1
          apply List.ext_getElem (by simp)
          intro i h1 h2; simp
        rw [e]; exact this
      have HST := Lib.hid hst
      clear hst hmk hNi
      generalize w2.alloc (.cells (madeCells #[.int .i8 0] N) 60) = W3 at *
      clear kx1 kx hz1
      go_wp2
      go_loopw [29] (fun i wx => ExRel w2 N N exF1 i wx) (fun i _ => N - (intOf i).toNat)
      case atStart => exact ⟨0, Nat.zero_le _, rfl, HST.out⟩
      case round =>
        obtain ⟨k, hk, rfl, hx⟩ := hrel
        have HX := Lib.hid hx
        by_cases hlt3 : k < N
        · have q1 := (hx.2.cell k).trans (fnL_at hlt3)
          have q2 := hx.2.free k
          clear hx
          go_wp2
          first
            | (go_roundw
               case rel => (exact ⟨k + 1, hlt3, by go_num, HX.out.put fun j hj => by unfold exF1; by_cases e : j = k; (rw [if_pos (by omega), if_pos e]); (rw [if_neg e]; split <;> split <;> first | rfl | omega)⟩)
               case measure => (simp [intOf]; omega))
            | (refine ⟨?_, ?_⟩
               · (exact ⟨k + 1, hlt3, by go_num, HX.out.put fun j hj => by unfold exF1; by_cases e : j = k; (rw [if_pos (by omega), if_pos e]); (rw [if_neg e]; split <;> split <;> first | rfl | omega)⟩)
               · (simp [intOf]; omega))
        · obtain rfl : k = N := by omega
          go_wp2
          clear hx
          have hst2 : ExSt w2 k (exF2 m 0) wr := by
            refine ⟨HX.out.1, ?_⟩
            have := HX.out.2
            rw [fnL_congr (G := exF2 m 0) fun j hj => by unfold exF1 exF2; rw [if_pos hj]; simp] at this
            exact this
          have HST2 := Lib.hid hst2
          clear hst2 HX HST
          obtain ⟨wo, rfl⟩ : ∃ wo : World, wo = wr := ⟨_, rfl⟩
          go_loopw [38] (fun i wx => ExRel w2 k m.length (exF2 m) i wx) (fun i _ => m.length - (intOf i).toNat)
          case atStart => exact ⟨0, Nat.zero_le _, rfl, HST2.out⟩
          case round =>
            obtain ⟨i, hi, rfl, hx⟩ := hrel
            have HX := Lib.hid hx
            have hbw : Below w.heap.size w wr := bon (bon HAL.out HB2.out) hx.1
            by_cases hlt4 : i < m.length
            · obtain ⟨b, off, rfl, hbl, hc⟩ := HCM.out (by omega)
              have hmr := HMR.out i hlt4
              obtain ⟨q, hq⟩ : ∃ q : Nat, ix m i = (q : Int) + 1 := ⟨(ix m i - 1).toNat, by omega⟩
              have hcx : wr.cell? ⟨b, off + i, none⟩ = some (.int .i64 ((q : Int) + 1)) := (bcell hbw _ _ hbl).trans ((hc i hlt4).trans (by rw [hq]))
              have hqk : q < k := by have := HN.out; omega
              have q1 := (hx.2.cell q).trans (fnL_at hqk)
              have q2 := hx.2.free q
              have HP2 : Hid (∀ j, j < k → exF2 m (i + 1) j = if j = q then 1 else exF2 m i j) := Lib.hid (fun j hj => by
                unfold exF2
                rw [take_ixM m i hlt4]
                simp only [List.mem_append, List.mem_singleton, hq]
                by_cases e : j = q
                · subst e; simp
                · rw [if_neg e]
                  have : ((j : Int) + 1 ∈ m.take i ∨ (j : Int) + 1 = (q : Int) + 1) ↔ (j : Int) + 1 ∈ m.take i := ⟨fun h => h.resolve_right (by omega), .inl⟩
                  simp only [this])
              clear hx hc hq hmr hbw
              go_wp2
              first
                | (go_roundw
                   case rel => (exact ⟨i + 1, hlt4, by go_num, HX.out.put HP2.out⟩)
                   case measure => (simp [intOf]; omega))
                | (refine ⟨?_, ?_⟩
                   · (exact ⟨i + 1, hlt4, by go_num, HX.out.put HP2.out⟩)
                   · (simp [intOf]; omega))
            · obtain rfl : i = m.length := by omega
              have kq := fun o => (bcell hx.1 _ o hlt2).trans (kx2 o)
              have hst3 : ExSt w2 k (exF3 p m 0) wr := by
                refine ⟨hx.1, ?_⟩
                have := hx.2
                rw [fnL_congr (G := exF3 p m 0) fun j hj => by
                  unfold exF2 exF3
                  rw [List.take_length]
                  by_cases e : (j : Int) < p.n
                  · rw [if_pos e]
                  · rw [if_neg e, if_neg (fun h => by
                      obtain ⟨y, hy, e2⟩ := mem_ix.1 h
                      have := HMR.out y hy
                      omega), if_neg (by omega)]] at this
                exact this
              have HST3 := Lib.hid hst3
              clear hst3 hx hbw
              go_wp2
              clear HX HST2
              obtain ⟨wp, rfl⟩ : ∃ wo : World, wo = wr := ⟨_, rfl⟩
              go_loopw [50] (fun i wx => ExRel w2 k p.rules.length (exF3 p m) i wx) (fun i _ => p.rules.length - (intOf i).toNat)
              case atStart => exact ⟨0, Nat.zero_le _, rfl, HST3.out⟩
              case round =>
                clear kq
                obtain ⟨i, hi, rfl, hx⟩ := hrel
                have HX := Lib.hid hx
                have kq := fun o => (bcell hx.1 _ o hlt2).trans (kx2 o)
                have hbw : Below w.heap.size w wr := bon (bon HAL.out HB2.out) hx.1
                by_cases hlt5 : i < p.rules.length
                · obtain ⟨b, off, rfl, hbl, hc⟩ := HCR.out (by omega)
                  obtain ⟨vh, vb, vw, hcc, hsl⟩ := hc i hlt5
                  obtain ⟨r0, r1, r2, r3, r4, r5⟩ := hcc.below hbw hbl
                  have hal3 := bal (Below.refl wr.heap.size wr) (.cells #[.bool (ixR p.rules i).choice, vh, .bool (ixR p.rules i).sum, .int .i64 (ixR p.rules i).bound, vb, vw] 55)
                  obtain ⟨a3, c3, rfl, -, hl3, -, -⟩ := hsl.head.form
                  obtain ⟨a4, c4, rfl, -, hl4, -, -⟩ := hsl.body.form
                  obtain ⟨a5, c5, rfl, -, hl5, -, -⟩ := hsl.wts.form
                  have HRI : Hid (RuleIs (wr.alloc (.cells #[.bool (ixR p.rules i).choice, .slice a3 (ixR p.rules i).head.length c3, .bool (ixR p.rules i).sum, .int .i64 (ixR p.rules i).bound, .slice a4 (ixR p.rules i).body.length c4, .slice a5 (ixR p.rules i).w.length c5] 55)) (.agg #[.bool (ixR p.rules i).choice, .slice a3 (ixR p.rules i).head.length c3, .bool (ixR p.rules i).sum, .int .i64 (ixR p.rules i).bound, .slice a4 (ixR p.rules i).body.length c4, .slice a5 (ixR p.rules i).w.length c5]) (ixR p.rules i)) := Lib.hid ⟨_, _, _, rfl, hsl.below (bon hbw hal3)⟩
                  have HMI : Hid (Ints (wr.alloc (.cells #[.bool (ixR p.rules i).choice, .slice a3 (ixR p.rules i).head.length c3, .bool (ixR p.rules i).sum, .int .i64 (ixR p.rules i).bound, .slice a4 (ixR p.rules i).body.length c4, .slice a5 (ixR p.rules i).w.length c5] 55)) (.slice am m.length cm) m) := Lib.hid (HM.out.below ((HB2.out.trans ((bon hx.1 hal3).mono HB2.out.size))))
                  have HAL3 := Lib.hid hal3
                  obtain ⟨nn, hnn⟩ : ∃ nn : Nat, p.n = nn := ⟨p.n.toNat, by omega⟩
                  have hqk : nn + i < k := by have := HN.out; omega
                  have hq0 := kq 0
                  rw [show ([Value.int .i64 p.n, vn, vs, .slice (some ⟨b, off, none⟩) p.rules.length c1, vmn] : List Value)[0]? = some (.int .i64 (nn : Int)) by rw [← hnn]; rfl] at hq0
                  have hltw : w.heap.size < wr.heap.size := Nat.lt_of_lt_of_le hlt2 hx.1.size
                  have hti : ((nn : Int) + (i : Int)).toNat = nn + i := by omega
                  have hti2 : (nn : Int) + (i : Int) < k := by omega
                  clear hc hcc hsl hx hbw kq
                  cases hbt : bodyT (ixR p.rules i) m with
                  | true =>
                    have HBT := Lib.hid hbt
                    have HP3 : Hid (∀ j, j < k → exF3 p m (i + 1) j = if j = nn + i then 1 else exF3 p m i j) := Lib.hid (fun j hj => by
                      unfold exF3
                      by_cases e : j = nn + i
                      · subst e
                        rw [if_pos rfl, if_neg (by omega), if_pos ⟨by omega, by rw [show nn + i - p.n.toNat = i by omega]; exact hbt⟩]
                      · rw [if_neg e]
                        by_cases e2 : (j : Int) < p.n
                        · rw [if_pos e2, if_pos e2]
                        · rw [if_neg e2, if_neg e2]
                          have : (j - p.n.toNat < i + 1) ↔ j - p.n.toNat < i := by omega
                          simp only [this])
                    clear hbt hal3 hnn
                    go_wp2_with (go_at_call 41; (with_reducible refine (rBody_any _ _ (ixR p.rules i) m _ HRI.out HMI.out (by omega) (HBV.out i hlt5)).mono ?_); rintro e w6 ⟨e6, hb6⟩; rw [HBT.out] at e6; subst e6; have HX6 := Lib.hid (HX.out.on (bon HAL3.out hb6)); have q1 := (HX6.out.2.cell (nn + i)).trans (fnL_at hqk); have q2 := HX6.out.2.free (nn + i); have hq6 := (bcell (bon HAL3.out hb6) _ 0 hltw).trans hq0; clear hb6)
                    first
                      | (go_roundw
                         case rel => (exact ⟨i + 1, hlt5, by go_num, HX6.out.put HP3.out⟩)
                         case measure => (simp [intOf]; omega))
                      | (refine ⟨?_, ?_⟩
                         · (exact ⟨i + 1, hlt5, by go_num, HX6.out.put HP3.out⟩)
                         · (simp [intOf]; omega))
                  | false =>
                    have HBT := Lib.hid hbt
                    have HP3 : Hid (∀ j, j < k → exF3 p m (i + 1) j = exF3 p m i j) := Lib.hid (fun j hj => by
                      unfold exF3
                      by_cases e2 : (j : Int) < p.n
                      · rw [if_pos e2, if_pos e2]
                      · rw [if_neg e2, if_neg e2]
                        by_cases e : j - p.n.toNat = i
                        · rw [e, hbt]; simp
                        · have : (j - p.n.toNat < i + 1) ↔ j - p.n.toNat < i := by omega
                          simp only [this])
                    clear hbt hal3 hnn
                    go_wp2_with (go_at_call 41; (with_reducible refine (rBody_any _ _ (ixR p.rules i) m _ HRI.out HMI.out (by omega) (HBV.out i hlt5)).mono ?_); rintro e w6 ⟨e6, hb6⟩; rw [HBT.out] at e6; subst e6; have HX6 := Lib.hid (HX.out.on (bon HAL3.out hb6)); have q1 := (HX6.out.2.cell (nn + i)).trans (fnL_at hqk); have q2 := HX6.out.2.free (nn + i); have hq6 := (bcell (bon HAL3.out hb6) _ 0 hltw).trans hq0; clear hb6)
                    first
                      | (go_roundw
                         case rel => (exact ⟨i + 1, hlt5, by go_num, HX6.out.1, by rw [fnL_congr HP3.out]; exact HX6.out.2⟩)
                         case measure => (simp [intOf]; omega))
                      | (refine ⟨?_, ?_⟩
                         · (exact ⟨i + 1, hlt5, by go_num, HX6.out.1, by rw [fnL_congr HP3.out]; exact HX6.out.2⟩)
                         · (simp [intOf]; omega))
                · obtain rfl : i = p.rules.length := by omega
                  have HFE : Hid ((extA p m).length = k ∧ fnL k (exF3 p m p.rules.length) = (extA p m).map (Value.int .i8)) := Lib.hid (by
                    rw [HF.out]
                    refine ⟨by rw [List.length_map, List.length_range, HN.out], ?_⟩
                    unfold fnL
                    rw [List.map_map, HN.out]
                    refine List.map_congr_left fun j hj => ?_
                    have hj := List.mem_range.1 hj
                    show Value.int .i8 _ = Value.int .i8 _
                    congr 1
                    unfold exF3 extAt
                    by_cases e : (j : Int) < p.n
                    · rw [if_pos e, if_pos e]
                    · rw [if_neg e, if_neg e]
                      have : j - p.n.toNat < p.rules.length := by omega
                      simp only [this, true_and])
                  have HBY : Hid (Bytes8 wr (.slice (some ⟨w2.heap.size, 0, none⟩) k k) (extA p m)) := Lib.hid (by
                    have h1 := hx.2
                    rw [HFE.out.2] at h1
                    have h2 := Blk.bytes8 h1 (fit8 fun x hx => by
                      rw [HF.out] at hx
                      obtain ⟨j, -, rfl⟩ := List.mem_map.1 hx
                      unfold extAt
                      split <;> split <;> omega) (by rw [HFE.out.1]; omega)
                    rw [HFE.out.1] at h2
                    exact h2)
                  have HBW := Lib.hid hbw
                  clear hx hbw kq
                  go_wp2
                  go_ret
                  rw [HFE.out.1]
                  exact ⟨_, _, rfl, HBY.out, HBW.out⟩
    | false =>
      have HS := Lib.hid hs
      have HF : Hid (extA p m = []) := Lib.hid (by unfold extA; rw [if_neg (by rw [hs]; simp)])
      clear hv hs
      go_enter Tryz.func12, Tryz.ntmps12
      go_wp2_with (first | (go_at_call 22; (with_reducible refine (valid_any _ p _ HP.out).mono ?_); rintro e w1 ⟨e1, hb1⟩; subst e1; have kx1 := fun o => (bcell hb1 _ o hlt).trans (kx o); have hz1 := hb1.size; have HB1 := Lib.hid hb1; have hlt1 := Nat.lt_of_lt_of_le hlt hz1; clear hb1) | (go_at_call 39; (with_reducible refine (cset_any _ _ p m _ (HP.out.below HB1.out) (HM.out.below HB1.out)).mono ?_); rintro e w2 ⟨e2, hb2⟩; rw [HS.out] at e2; subst e2; have kx2 := fun o => (bcell hb2 _ o hlt1).trans (kx1 o); have HB2 := Lib.hid (bon HB1.out hb2); have hlt2 := Nat.lt_of_lt_of_le hlt1 hb2.size; clear hb2))
      go_ret
      rw [HF.out]
      exact ⟨_, _, rfl, nil_bytes8 _, bon HAL.out HB2.out⟩
  · have hve : (validE p != 0) = true := by simp [hv]
    have HF : Hid (extA p m = []) := Lib.hid (by unfold extA; rw [if_neg (fun h => hv h.1)])
    clear hv
    go_enter Tryz.func12, Tryz.ntmps12
    go_wp2_with (first | (go_at_call 22; (with_reducible refine (valid_any _ p _ HP.out).mono ?_); rintro e w1 ⟨e1, hb1⟩; subst e1; have kx1 := fun o => (bcell hb1 _ o hlt).trans (kx o); have hz1 := hb1.size; have HB1 := Lib.hid hb1; have hlt1 := Nat.lt_of_lt_of_le hlt hz1; clear hb1) | (go_at_call 39; (with_reducible refine (cset_any _ _ p m _ (HP.out.below HB1.out) (HM.out.below HB1.out)).mono ?_); rintro e w2 ⟨e2, hb2⟩; rw [HS.out] at e2; subst e2; have kx2 := fun o => (bcell hb2 _ o hlt1).trans (kx1 o); have HB2 := Lib.hid (bon HB1.out hb2); have hlt2 := Nat.lt_of_lt_of_le hlt1 hb2.size; clear hb2))
    go_ret
    rw [HF.out]
    exact ⟨_, _, rfl, nil_bytes8 _, bon HAL.out HB1.out⟩
end Go.Proofs.YtjodocheiejkeaaGreatDoor
namespace Go.Proofs.YtjodocheiejkeaaGreatDoor
open Go.Shelf
def Tryz.lays169_ren : Go.Shelf.Ren := ⟨fun | 169 => 66 | n => n, fun | 70 => 94 | 9 => 9 | 0 => 0 | 72 => 97 | 37 => 95 | 127 => 135 | 3 => 3 | 5 => 5 | n => n, fun | n => n⟩
theorem Tryz.lays169 : Go.Proofs.Lays.n169 Tryz.prog Tryz.lays169_ren := {
  mixed := by kernel_rfl
  f169 := Tryz.func66.trans (congrArg some (by kernel_rfl))
  t0 := Tryz.underlying0
  a0 := Tryz.isAgg0
  z0 := Tryz.sizeOf0
  v0 := Tryz.zeroValue0
  t3 := Tryz.underlying3
  a3 := Tryz.isAgg3
  z3 := Tryz.sizeOf3
  v3 := Tryz.zeroValue3
  t9 := Tryz.underlying9
  a9 := Tryz.isAgg9
  z9 := Tryz.sizeOf9
  v9 := Tryz.zeroValue9
  t37 := Tryz.underlying95
  a37 := Tryz.isAgg95
  z37 := Tryz.sizeOf95
  v37 := Tryz.zeroValue95
  t70 := Tryz.underlying94
  a70 := Tryz.isAgg94
  z70 := Tryz.sizeOf94
  v70 := Tryz.zeroValue94
  t72 := Tryz.underlying97
  a72 := Tryz.isAgg97
  z72 := Tryz.sizeOf97
  v72 := Tryz.zeroValue97
  t127 := Tryz.underlying135
  a127 := Tryz.isAgg135
  z127 := Tryz.sizeOf135
  v127 := Tryz.zeroValue135 }
theorem Tryz.Builder_Extra_169 : Builder.Extra Tryz.prog Tryz.lays169_ren := {
  sizeBuilder := by kernel_rfl
  liesBuilder := by kernel_rfl
  t5 := Tryz.underlying5
  a5 := Tryz.isAgg5
  z5 := Tryz.sizeOf5
  v5 := Tryz.zeroValue5
  infoByte := by kernel_rfl
  cellsByte := by kernel_rfl
  sizeByte := by kernel_rfl
  neB5 := by decide }
open Go.RowKit in
theorem Tryz.Builder_String_any_k (B b : Nat) (l : List UInt8) (w : World) (h : Lib.IsBuilderF 97 5 B b (Lib.byteCells l) w) (hBw : B ≤ w.heap.size) :
    Calls Tryz.prog 66 #[.pointer (some ⟨b, 0, none⟩)] w fun e w' => e = .returned (.string ⟨l.toArray⟩) ∧ (Lib.IsBuilderF 97 5 B b (Lib.byteCells l) w' ∧ Below B w w' ∧ Lib.OthersKept 5 (some b) w w') := Any.Builder_String_any_k Tryz.lays169 Tryz.Builder_Extra_169 B b l w h hBw
def Tryz.lays171_ren : Go.Shelf.Ren := ⟨fun | 171 => 64 | 243 => 96 | 246 => 143 | 283 => 169 | 284 => 170 | 285 => 171 | 286 => 172 | 129 => 111 | 317 => 183 | 318 => 184 | 319 => 185 | 320 => 186 | 337 => 190 | 338 => 191 | n => n, fun | 3 => 3 | 9 => 9 | 2 => 2 | 4 => 4 | 171 => 188 | 0 => 0 | 53 => 152 | 37 => 95 | 5 => 5 | 173 => 190 | 212 => 199 | 51 => 150 | 20 => 20 | 213 => 200 | 46 => 116 | 232 => 204 | 233 => 205 | n => n, fun | 17 => 1 | 18 => 2 | 19 => 3 | n => n⟩
theorem Tryz.lays171 : Go.Proofs.Lays.n171 Tryz.prog Tryz.lays171_ren := {
  mixed := by kernel_rfl
  f129 := Tryz.func111.trans (congrArg some (by kernel_rfl))
  f171 := Tryz.func64.trans (congrArg some (by kernel_rfl))
  f243 := Tryz.func96.trans (congrArg some (by kernel_rfl))
  f246 := Tryz.func143.trans (congrArg some (by kernel_rfl))
  f283 := Tryz.func169.trans (congrArg some (by kernel_rfl))
  f284 := Tryz.func170.trans (congrArg some (by kernel_rfl))
  f285 := Tryz.func171.trans (congrArg some (by kernel_rfl))
  f286 := Tryz.func172.trans (congrArg some (by kernel_rfl))
  f317 := Tryz.func183.trans (congrArg some (by kernel_rfl))
  f318 := Tryz.func184.trans (congrArg some (by kernel_rfl))
  f319 := Tryz.func185.trans (congrArg some (by kernel_rfl))
  f320 := Tryz.func186.trans (congrArg some (by kernel_rfl))
  f337 := Tryz.func190.trans (congrArg some (by kernel_rfl))
  f338 := Tryz.func191.trans (congrArg some (by kernel_rfl))
  t0 := Tryz.underlying0
  a0 := Tryz.isAgg0
  z0 := Tryz.sizeOf0
  v0 := Tryz.zeroValue0
  t2 := Tryz.underlying2
  a2 := Tryz.isAgg2
  z2 := Tryz.sizeOf2
  v2 := Tryz.zeroValue2
  t3 := Tryz.underlying3
  a3 := Tryz.isAgg3
  z3 := Tryz.sizeOf3
  v3 := Tryz.zeroValue3
  t4 := Tryz.underlying4
  a4 := Tryz.isAgg4
  z4 := Tryz.sizeOf4
  v4 := Tryz.zeroValue4
  t5 := Tryz.underlying5
  a5 := Tryz.isAgg5
  z5 := Tryz.sizeOf5
  v5 := Tryz.zeroValue5
  t9 := Tryz.underlying9
  a9 := Tryz.isAgg9
  z9 := Tryz.sizeOf9
  v9 := Tryz.zeroValue9
  t20 := Tryz.underlying20
  a20 := Tryz.isAgg20
  z20 := Tryz.sizeOf20
  v20 := Tryz.zeroValue20
  t37 := Tryz.underlying95
  a37 := Tryz.isAgg95
  z37 := Tryz.sizeOf95
  v37 := Tryz.zeroValue95
  t46 := Tryz.underlying116
  a46 := Tryz.isAgg116
  z46 := Tryz.sizeOf116
  v46 := Tryz.zeroValue116
  t51 := Tryz.underlying150
  a51 := Tryz.isAgg150
  z51 := Tryz.sizeOf150
  v51 := Tryz.zeroValue150
  t53 := Tryz.underlying152
  a53 := Tryz.isAgg152
  z53 := Tryz.sizeOf152
  v53 := Tryz.zeroValue152
  t171 := Tryz.underlying188
  a171 := Tryz.isAgg188
  z171 := Tryz.sizeOf188
  v171 := Tryz.zeroValue188
  t173 := Tryz.underlying190
  a173 := Tryz.isAgg190
  z173 := Tryz.sizeOf190
  v173 := Tryz.zeroValue190
  t212 := Tryz.underlying199
  a212 := Tryz.isAgg199
  z212 := Tryz.sizeOf199
  v212 := Tryz.zeroValue199
  t213 := Tryz.underlying200
  a213 := Tryz.isAgg200
  z213 := Tryz.sizeOf200
  t232 := Tryz.underlying204
  a232 := Tryz.isAgg204
  z232 := Tryz.sizeOf204
  v232 := Tryz.zeroValue204
  t233 := Tryz.underlying205
  a233 := Tryz.isAgg205
  z233 := Tryz.sizeOf205
  v233 := Tryz.zeroValue205
  g17 := by kernel_rfl
  g18 := by kernel_rfl
  g19 := by kernel_rfl }
open Go.RowKit Go.Sort Go.Lib in
theorem Tryz.strconv_Itoa_small (i : Nat) (hi : i < 100) (w : World) :
    Calls Tryz.prog 64 #[.int .i64 i] w fun e w' => e = .returned (.string ⟨(Lib.decDigits i).toArray⟩) ∧ w' = w := Any.strconv_Itoa_small Tryz.lays171 i hi w
def Tryz.lays189_ren : Go.Shelf.Ren := ⟨fun | 189 => 78 | 125 => 75 | 257 => 113 | 128 => 110 | 129 => 111 | 294 => 156 | 295 => 157 | 296 => 158 | 297 => 159 | 298 => 160 | 299 => 161 | 216 => 162 | 300 => 163 | 301 => 164 | 328 => 176 | 329 => 152 | 330 => 153 | 331 => 177 | 332 => 178 | 215 => 112 | 343 => 187 | n => n, fun | 28 => 23 | 3 => 3 | 46 => 116 | 0 => 0 | 51 => 150 | 53 => 152 | 4 => 4 | 183 => 143 | 182 => 142 | 131 => 147 | 5 => 5 | 9 => 9 | 218 => 176 | 222 => 180 | 228 => 192 | 229 => 193 | n => n, fun | n => n⟩
theorem Tryz.lays189 : Go.Proofs.Lays.n189 Tryz.prog Tryz.lays189_ren := {
  mixed := by kernel_rfl
  f125 := Tryz.func75.trans (congrArg some (by kernel_rfl))
  f128 := Tryz.func110.trans (congrArg some (by kernel_rfl))
  f129 := Tryz.func111.trans (congrArg some (by kernel_rfl))
  f189 := Tryz.func78.trans (congrArg some (by kernel_rfl))
  f215 := Tryz.func112.trans (congrArg some (by kernel_rfl))
  f216 := Tryz.func162.trans (congrArg some (by kernel_rfl))
  f257 := Tryz.func113.trans (congrArg some (by kernel_rfl))
  f294 := Tryz.func156.trans (congrArg some (by kernel_rfl))
  f295 := Tryz.func157.trans (congrArg some (by kernel_rfl))
  f296 := Tryz.func158.trans (congrArg some (by kernel_rfl))
  f297 := Tryz.func159.trans (congrArg some (by kernel_rfl))
  f298 := Tryz.func160.trans (congrArg some (by kernel_rfl))
  f299 := Tryz.func161.trans (congrArg some (by kernel_rfl))
  f300 := Tryz.func163.trans (congrArg some (by kernel_rfl))
  f301 := Tryz.func164.trans (congrArg some (by kernel_rfl))
  f328 := Tryz.func176.trans (congrArg some (by kernel_rfl))
  f329 := Tryz.func152.trans (congrArg some (by kernel_rfl))
  f330 := Tryz.func153.trans (congrArg some (by kernel_rfl))
  f331 := Tryz.func177.trans (congrArg some (by kernel_rfl))
  f332 := Tryz.func178.trans (congrArg some (by kernel_rfl))
  f343 := Tryz.func187.trans (congrArg some (by kernel_rfl))
  t0 := Tryz.underlying0
  a0 := Tryz.isAgg0
  z0 := Tryz.sizeOf0
  v0 := Tryz.zeroValue0
  t3 := Tryz.underlying3
  a3 := Tryz.isAgg3
  z3 := Tryz.sizeOf3
  v3 := Tryz.zeroValue3
  t4 := Tryz.underlying4
  a4 := Tryz.isAgg4
  z4 := Tryz.sizeOf4
  v4 := Tryz.zeroValue4
  t5 := Tryz.underlying5
  a5 := Tryz.isAgg5
  z5 := Tryz.sizeOf5
  v5 := Tryz.zeroValue5
  t9 := Tryz.underlying9
  a9 := Tryz.isAgg9
  z9 := Tryz.sizeOf9
  v9 := Tryz.zeroValue9
  t28 := Tryz.underlying23
  a28 := Tryz.isAgg23
  z28 := Tryz.sizeOf23
  v28 := Tryz.zeroValue23
  t46 := Tryz.underlying116
  a46 := Tryz.isAgg116
  z46 := Tryz.sizeOf116
  v46 := Tryz.zeroValue116
  t51 := Tryz.underlying150
  a51 := Tryz.isAgg150
  z51 := Tryz.sizeOf150
  v51 := Tryz.zeroValue150
  t53 := Tryz.underlying152
  a53 := Tryz.isAgg152
  z53 := Tryz.sizeOf152
  v53 := Tryz.zeroValue152
  t131 := Tryz.underlying147
  a131 := Tryz.isAgg147
  z131 := Tryz.sizeOf147
  v131 := Tryz.zeroValue147
  t182 := Tryz.underlying142
  a182 := Tryz.isAgg142
  z182 := Tryz.sizeOf142
  v182 := Tryz.zeroValue142
  t183 := Tryz.underlying143
  a183 := Tryz.isAgg143
  z183 := Tryz.sizeOf143
  v183 := Tryz.zeroValue143
  t218 := Tryz.underlying176
  a218 := Tryz.isAgg176
  z218 := Tryz.sizeOf176
  v218 := Tryz.zeroValue176
  t222 := Tryz.underlying180
  a222 := Tryz.isAgg180
  z222 := Tryz.sizeOf180
  v222 := Tryz.zeroValue180
  t228 := Tryz.underlying192
  a228 := Tryz.isAgg192
  z228 := Tryz.sizeOf192
  v228 := Tryz.zeroValue192
  t229 := Tryz.underlying193
  a229 := Tryz.isAgg193
  z229 := Tryz.sizeOf193
  v229 := Tryz.zeroValue193 }
open Go.Sort Go.RowKit in
theorem Tryz.slices_Sort_int (blk off cap : Nat) (zs : List Int) (w : World) (hH : Holds (Value.int .i64) w blk off zs.toArray) (hblk : blk < w.heap.size) (hsz : zs.length < 4611686018427387904) :
    Calls Tryz.prog 78 #[.slice (some ⟨blk, off, none⟩) zs.length cap] w fun e w' =>
      e = .returned (.tuple #[]) ∧ ∃ n os, w' = grow (putRow (Value.int .i64) (Sort.ahead w n) blk off (zs.mergeSort fun x y => decide (x ≤ y)).toArray) os := Any.slices_Sort_int Tryz.lays189 blk off cap zs w hH hblk hsz
def Tryz.laysNm220_ren : Go.Shelf.Ren := ⟨fun | 20 => 50 | n => n, fun | 22 => 23 | 3 => 3 | 4 => 4 | 0 => 0 | n => n, fun | n => n⟩
theorem Tryz.laysNm220 : Go.Proofs.Lays2.n20 Tryz.prog Tryz.laysNm220_ren := {
  mixed := by kernel_rfl
  f20 := Tryz.func50.trans (congrArg some (by kernel_rfl))
  t0 := Tryz.underlying0
  a0 := Tryz.isAgg0
  z0 := Tryz.sizeOf0
  v0 := Tryz.zeroValue0
  t3 := Tryz.underlying3
  a3 := Tryz.isAgg3
  z3 := Tryz.sizeOf3
  v3 := Tryz.zeroValue3
  t4 := Tryz.underlying4
  a4 := Tryz.isAgg4
  z4 := Tryz.sizeOf4
  v4 := Tryz.zeroValue4
  t22 := Tryz.underlying23
  a22 := Tryz.isAgg23
  z22 := Tryz.sizeOf23
  v22 := Tryz.zeroValue23
  i3 := by kernel_rfl }
open Go.RowKit Go.Lib Go.Sort in
theorem Tryz.slices_Compact_int (blk off cap : Nat) (zs : List Int) (w : World) (hH : Holds (Value.int .i64) w blk off zs.toArray) (hsz : zs.length ≤ 9223372036854775807) (hcap : zs.length ≤ cap) :
    Calls Tryz.prog 50 #[.slice (some ⟨blk, off, none⟩) zs.length cap] w fun e w' => e = .returned (.slice (some ⟨blk, off, none⟩) (Lib.compact zs).length cap) ∧ ∃ q, w' = putRow (Value.int .i64) (Sort.ahead w q) blk off (Lib.compact zs ++ List.replicate (zs.length - (Lib.compact zs).length) 0).toArray := Any.slices_Compact_int Tryz.laysNm220 blk off cap zs w hH hsz hcap
open Go.RowKit Go.Lib Go.Sort in
theorem Tryz.slices_Compact_int_empty (a : Option Addr) (cap : Nat) (w : World) :
    Calls Tryz.prog 50 #[.slice a 0 cap] w fun e w' => e = .returned (.slice a 0 cap) ∧ w' = w := Any.slices_Compact_int_empty Tryz.laysNm220 a cap w
open Go.RowKit Go.Sort in
theorem Tryz.slices_Sort_int_none (p : Option Addr) (cap : Nat) (w : World) :
    Calls Tryz.prog 78 #[.slice p 0 cap] w fun e w' => e = .returned (.tuple #[]) ∧ w' = w := Any.slices_Sort_int_none Tryz.lays189 p cap w
end Go.Proofs.YtjodocheiejkeaaGreatDoor
namespace Go.Proofs.YtjodocheiejkeaaGreatDoor
open Go.RowKit
abbrev BAt (B b : Nat) (p : Value) (bs : List Value) (w : World) : Prop := Lib.BuilderAtF 97 5 B b p bs w
abbrev IsB (B b : Nat) (bs : List Value) (w : World) : Prop := Lib.IsBuilderF 97 5 B b bs w
theorem infoB : (Tryz.prog.info? 5).map (fun i => (i.zero, i.size, i.bytes)) = some (some (.int .u8 0), 1, 1) := by kernel_rfl
theorem sizeB : (Tryz.prog.info? 97).map (·.size) = some 2 := by kernel_rfl
set_option maxHeartbeats 1000000 in
set_option maxRecDepth 100000 in
theorem cc_fresh (b : Nat) (w : World) (h0 : w.cell? ⟨b, 0, none⟩ = some (.pointer none)) (hsh : w.shape? b = some (97, 2)) (hfz : w.frozen? ⟨b, 0, none⟩ = false) :
    Calls Tryz.prog 95 #[.pointer (some ⟨b, 0, none⟩)] w fun e w' => e = .returned (.tuple #[]) ∧ w' = w.setCell ⟨b, 0, none⟩ (.pointer (some ⟨b, 0, none⟩)) := by
  obtain ⟨j, hj, hjs⟩ := Option.map_eq_some_iff.1 sizeB
  go_enter Tryz.func95, Tryz.ntmps95
  go_wp2
  rw [Lib.run_to_unsafe w ⟨b, 0, none⟩ Tryz.underlying94 Tryz.underlying166 hj (by rw [hjs]; decide) hsh (Nat.zero_lt_succ 1)]
  simp only [Result.andThen]
  rw [Oper.upon_value]
  go_wp2
  rw [run_callFunc_extern Tryz.func142 (by kernel_rfl) (by kernel_rfl) (by kernel_rfl) (e := Extern.AbiNoEscape.same) (by kernel_rfl)]
  rw [Lib.run_noEscape]
  simp only [Result.andThen]
  rw [Oper.upon_value]
  go_wp2
  rw [Lib.run_from_unsafe w ⟨b, 0, none⟩ Tryz.underlying166 Tryz.underlying94 hj hsh Tryz.Builder_Extra_169.toX72.liesBuilder]
  simp only [Result.andThen]
  rw [Oper.upon_value]
  go_wp2
  go_end0
  exact ⟨rfl, rfl⟩
set_option maxHeartbeats 1000000 in
set_option maxRecDepth 100000 in
theorem cc_used (b : Nat) (w : World) (h0 : w.cell? ⟨b, 0, none⟩ = some (.pointer (some ⟨b, 0, none⟩))) :
    Calls Tryz.prog 95 #[.pointer (some ⟨b, 0, none⟩)] w fun e w' => e = .returned (.tuple #[]) ∧ w' = w := by
  obtain ⟨j, hj, _⟩ := Option.map_eq_some_iff.1 sizeB
  go_enter Tryz.func95, Tryz.ntmps95
  go_wp2
  rw [Lib.run_neq_ptr_same w _ Tryz.underlying94 hj]
  go_wp2
  go_end0
  exact ⟨rfl, rfl⟩
theorem cc_any (B b : Nat) (bs : List Value) (w : World) (h : IsB B b bs w) :
    Calls Tryz.prog 95 #[.pointer (some ⟨b, 0, none⟩)] w fun e w' => e = .returned (.tuple #[]) ∧ (BAt B b (.pointer (some ⟨b, 0, none⟩)) bs w' ∧ Below B w w' ∧ Lib.OthersKept 5 (some b) w w') := by
  rcases h with h | h
  · refine (cc_fresh b w h.cell0 h.shape h.frozen0).mono ?_
    rintro e w' ⟨rfl, rfl⟩
    exact ⟨rfl, h.used _, (Below.refl B w).setCell (p := ⟨b, 0, none⟩) h.1 _, (Lib.OthersKept.refl _ _ w).setCell ⟨b, 0, none⟩ rfl _⟩
  · refine (cc_used b w h.cell0).mono ?_
    rintro e w' ⟨rfl, rfl⟩
    exact ⟨rfl, h, Below.refl B _, Lib.OthersKept.refl _ _ _⟩
set_option maxHeartbeats 2000000 in
set_option maxRecDepth 100000 in
theorem ws_any (B b : Nat) (bs : List Value) (s : ByteArray) (w : World) (h : IsB B b bs w) (hlen : bs.length + s.size ≤ 140737488355328) (hBw : B ≤ w.heap.size) :
    Calls Tryz.prog 63 #[.pointer (some ⟨b, 0, none⟩), .string s] w fun e w' => e = .returned (.tuple #[.int .i64 s.size, .nilIface]) ∧ (BAt B b (.pointer (some ⟨b, 0, none⟩)) (bs ++ Lib.strCells s) w' ∧ Below B w w' ∧ Lib.OthersKept 5 (some b) w w') := by
  obtain ⟨i0, hi, hz0, hz1, hz2⟩ := info_parts infoB
  go_enter Tryz.func63, Tryz.ntmps63
  go_wp2_with (go_at_call 95; refine (cc_any B b bs _ h).mono ?_)
  rintro e w1 ⟨rfl, h1, hb1, hk1⟩
  obtain ⟨hB, v, hbk, hown, hne⟩ := h1
  have c0 : w1.cell? ⟨b, 0, none⟩ = some (.pointer (some ⟨b, 0, none⟩)) := by rw [Lib.cell_of_heap hbk]; rfl
  have c1 : w1.cell? ⟨b, 1, none⟩ = some v := by rw [Lib.cell_of_heap hbk]; rfl
  go_wp2_with (at_builtin; refine Lib.wpList_append_own_stringF _ rfl _ _ 95 9 rfl B 5 i0 Tryz.underlying95 Tryz.underlying9 hi hz0 hz1 hz2 _ _ _ rfl hown s rfl ?c3 ?c4 ?c5 ?_)
  case c3 => unfold maxLen; omega
  case c4 => omega
  case c5 => have := hb1.size; omega
  intro v' w2 hown' hgrow _
  have hlt : b < w1.heap.size := (Array.getElem?_eq_some_iff.1 hbk).1
  have hb2 : w2.heap[b]? = some (.cells #[.pointer (some ⟨b, 0, none⟩), v] 97 (0, 0)) := by
    rw [hgrow.block b hlt (fun e => hne e.symm)]
    exact hbk
  have d0 : w2.cell? ⟨b, 0, none⟩ = some (.pointer (some ⟨b, 0, none⟩)) := by rw [Lib.cell_of_heap hb2]; rfl
  have d1 : w2.cell? ⟨b, 1, none⟩ = some v := by rw [Lib.cell_of_heap hb2]; rfl
  have f1 : w2.frozen? ⟨b, 1, none⟩ = false := Lib.frozen_of_heap hb2 1
  obtain ⟨ao, n', cap, rfl⟩ : ∃ ao n' cap, v' = .slice ao n' cap := by
    rcases hown'.2 with ⟨hv, _⟩ | ⟨g, cap, cur, fz, hv, _⟩
    · exact ⟨_, _, _, hv⟩
    · exact ⟨_, _, _, hv⟩
  go_wp2
  go_ret2
  refine ⟨rfl, ?_, ?_, (hk1.grown hgrow (Lib.ownsRowF_kind hown)).setCell ⟨b, 1, none⟩ rfl _⟩
  · exact Lib.BuilderAtF.put (T := 97) (e := 5) hB hb2 (bs' := bs ++ Lib.strCells s) (by simpa [Lib.strCells_length] using hown') (by decide)
  · exact (hb1.grown hgrow (by have := hb1.size; omega) (fun k hk => (hown.lt k hk).1)).setCell (p := ⟨b, 1, none⟩) hB _
end Go.Proofs.YtjodocheiejkeaaGreatDoor
namespace Go.Proofs.YtjodocheiejkeaaGreatDoor
open Go.RowKit Go.Shelf
attribute [local go_sem] Oper.semAt_some
def PBIs (w : World) (v : Value) (c : PBC) : Prop := ∃ vl vk, v = .agg #[vl, vk, .int .i64 c.bound] ∧ Ints w vl c.lits ∧ Ints w vk c.coefs ∧ InI c.bound
theorem PBIs.below {w w' : World} {v : Value} {c : PBC} (h : PBIs w v c) (hb : Below w.heap.size w w') : PBIs w' v c :=
  let ⟨vl, vk, e, h1, h2, h3⟩ := h; ⟨vl, vk, e, h1.below hb, h2.below hb, h3⟩
theorem pliteral_any (l : Int) (w : World) : Calls Tryz.prog 77 #[.int .i64 l] w fun e w' => e = .returned (.bool (plitB l)) ∧ w = w' := by
  by_cases h0 : l = 0
  · subst h0
    go_enter Tryz.func77, Tryz.ntmps77
    go_wp2
    go_ret
    exact ⟨rfl, rfl⟩
  · by_cases h1 : -65536 ≤ l
    · by_cases h2 : l ≤ 65536
      · have HF : Hid (plitB l = true) := Lib.hid (by unfold plitB; simp [h0, h1, h2])
        go_enter Tryz.func77, Tryz.ntmps77
        go_wp2
        go_ret
        exact ⟨ret_bool (by rw [HF.out]; try simp_all), rfl⟩
      · have HF : Hid (plitB l = false) := Lib.hid (by unfold plitB; simp [h2])
        go_enter Tryz.func77, Tryz.ntmps77
        go_wp2
        go_ret
        exact ⟨ret_bool (by rw [HF.out]; try simp_all), rfl⟩
    · have HF : Hid (plitB l = false) := Lib.hid (by unfold plitB; simp [h1])
      go_enter Tryz.func77, Tryz.ntmps77
      go_wp2
      go_ret
      exact ⟨ret_bool (by rw [HF.out]; try simp_all), rfl⟩
theorem abs_any (l : Int) (hl : -4611686018427387904 ≤ l ∧ l ≤ 4611686018427387904) (w : World) : Calls Tryz.prog 65 #[.int .i64 l] w fun e w' => e = .returned (.int .i64 l.natAbs) ∧ w = w' := by
  go_enter Tryz.func65, Tryz.ntmps65
  go_wp2
  all_goals
    go_ret
    refine ⟨ret_int ?_, rfl⟩
    omega
theorem parts_any (vl vk : Value) (bd : Int) (w : World) (hl : ∃ a n c, vl = .slice a n c) (hk : ∃ a n c, vk = .slice a n c) :
    Calls Tryz.prog 57 #[.agg #[vl, vk, .int .i64 bd]] w fun e w' => e = .returned (.func (.func 90) #[] #[.pointer (some ⟨w.heap.size, 0, none⟩)]) ∧ Below w.heap.size w w' ∧ Blk w' w.heap.size [vl, vk, .int .i64 bd] 46 := by
  obtain ⟨a1, n1, c1, rfl⟩ := hl
  obtain ⟨a2, n2, c2, rfl⟩ := hk
  have HB : Hid (Below w.heap.size w (w.alloc (.cells #[.slice a1 n1 c1, .slice a2 n2 c2, .int .i64 bd] 46))) := Lib.hid (bal (Below.refl _ _) _)
  have HK := Lib.hid (Blk.new w [.slice a1 n1 c1, .slice a2 n2 c2, .int .i64 bd] 46)
  go_enter Tryz.func57, Tryz.ntmps57
  go_wp2
  go_ret
  exact ⟨rfl, HB.out, HK.out⟩
abbrev PV (c : PBC) := { q : Int × Int // q ∈ c.lits.zip c.coefs }
def pvs {c : PBC} (l : List (PV c)) : List (Int × Int) := l.map (·.1)
theorem pvs_snoc {c : PBC} (l : List (PV c)) (x : PV c) : pvs (l ++ [x]) = pvs l ++ [x.1] := by simp [pvs]
theorem pvs_len {c : PBC} (l : List (PV c)) : (pvs l).length = l.length := by simp [pvs]
theorem zip_at {L K : List Int} {k : Nat} (hk : k < L.length) (hl : L.length = K.length) : (L.zip K)[k]? = some (ix L k, ix K k) := by
  simp only [ix, List.getD_eq_getElem?_getD, List.getElem?_zip_eq_some, List.getElem?_eq_getElem hk, List.getElem?_eq_getElem (show k < K.length by omega), Option.getD_some, and_self]
theorem zip_take {L K : List Int} {k : Nat} (hk : k < L.length) (hl : L.length = K.length) : (L.zip K).take (k + 1) = (L.zip K).take k ++ [(ix L k, ix K k)] := by
  rw [List.take_add_one, zip_at hk hl]
  rfl
structure PartSt (wi w : World) (S : List Nat) (cb : Nat) (vl vk : Value) (bd : Int) : Prop where
  below : ∀ i, i < wi.heap.size → w.heap[i]? = wi.heap[i]?
  size : wi.heap.size ≤ w.heap.size
  box : Blk w cb [vl, vk, .int .i64 bd] 46
theorem PartSt.lim {wi w w' : World} {S : List Nat} {cb n : Nat} {vl vk : Value} {bd : Int} (h : PartSt wi w S cb vl vk bd) (hl : Lim n S w w') (hn : wi.heap.size ≤ n) (hcb : cb < n) (hS : ∀ s ∈ S, wi.heap.size ≤ s) (hne : cb ∉ S) : PartSt wi w' S cb vl vk bd :=
  ⟨fun i hi => (hl.block i (by omega) (fun hm => by have := hS i hm; omega)).trans (h.below i hi), Nat.le_trans h.size hl.size, h.box.same (hl.block cb hcb hne)⟩
def PartRel (c : PBC) (n0 : Nat) (S : List Nat) (W0 : World) (J : List (PV c) → World → Prop) (i : Value) (wr : World) : Prop :=
  ∃ (k : Nat) (pre : List (PV c)), k ≤ c.lits.length ∧ i = .int .i64 k ∧ pvs pre = (c.lits.zip c.coefs).take k ∧ J pre wr ∧ Lim n0 S W0 wr
theorem cell_of_same {w w' : World} {b o : Nat} (h : w'.heap[b]? = w.heap[b]?) : w'.cell? ⟨b, o, none⟩ = w.cell? ⟨b, o, none⟩ := World.cell?_of_block h
theorem yieldEnd2 {e : Ending} {A B : Prop} (h : (e = .returned (.bool true) ∧ A) ∨ (e = .returned (.bool false) ∧ B)) : ∃ b, e = .returned (.bool b) ∧ (b = true → A) ∧ (b = false → B) := by
  rcases h with ⟨rfl, h⟩ | ⟨rfl, h⟩
  · exact ⟨true, rfl, fun _ => h, fun e => (Bool.noConfusion e)⟩
  · exact ⟨false, rfl, (fun e => Bool.noConfusion e), fun _ => h⟩
set_option maxHeartbeats 4000000 in
set_option maxRecDepth 100000 in
theorem parts_stops (c : PBC) (wi w0 : World) (vl vk : Value) (hL : Ints wi vl c.lits) (hK : Ints wi vk c.coefs) (hlen : c.lits.length = c.coefs.length) (S : List Nat) (cb : Nat)
    (hst : PartSt wi w0 S cb vl vk c.bound) (hS : ∀ s ∈ S, wi.heap.size ≤ s) (hne : cb ∉ S) (n : Nat) (hn : 1 ≤ n) :
    SeqStopsK Fence.wide n Tryz.prog 90 #[.pointer (some ⟨cb, 0, none⟩)] (fun x : PV c => #[.int .i64 x.1.1, .int .i64 x.1.2]) (Lim w0.heap.size S)
      (fun xs => pvs xs = c.lits.zip c.coefs) (fun pre => ∃ k, k ≤ c.lits.length ∧ pvs pre = (c.lits.zip c.coefs).take k) c.lits.length w0 := by
  intro l J Jx W hW hJ hJx hY h0
  obtain ⟨a1, c1, rfl, -, hl1, -, hcell1⟩ := hL.form
  obtain ⟨a2, c2, rfl, -, hl2, -, hcell2⟩ := hK.form
  have HC1 := Lib.hid hcell1
  have HC2 := Lib.hid hcell2
  have HY := Lib.hid hY
  have HJ := Lib.hid hJ
  have HJX := Lib.hid hJx
  have H0 := Lib.hid h0
  have HLEN := Lib.hid hlen
  have hcbl := hst.box.lt
  have hsz := hst.size
  have HS0 : Hid (PartSt wi W S cb (.slice a1 c.lits.length c1) (.slice a2 c.coefs.length c2) c.bound) := Lib.hid (hst.lim (.of_below hW (Nat.le_refl _)) hsz hcbl hS hne)
  have HS := Lib.hid hS
  have HNE := Lib.hid hne
  have kp := HS0.out.box.cell
  have hzW := hW.size
  clear hst hY hJ hJx h0 hW hcell1 hcell2 hL hK hS hne hlen
  refine callsIn_of_wp Tryz.func90 rfl trivial ?_ rfl
  simp only [Tryz.ntmps90, List.size_toArray, List.length_cons, List.length_nil, Nat.reduceAdd, Nat.reduceSub, Array.replicate_succ, Array.replicate_zero, List.push_toArray, List.append_toArray, List.nil_append, List.cons_append]
  gi_wp2
  clear kp
  gi_loopw [8] (fun i wr => PartRel c w0.heap.size S W J i wr) (fun i _ => c.lits.length - (intOf i).toNat)
  case atStart => exact ⟨0, [], Nat.zero_le _, rfl, by simp [pvs], H0.out, Lim.refl _ _ _⟩
  case round =>
    obtain ⟨k, pre, hk, rfl, hpre, hj, hlim⟩ := hrel
    have HJR := Lib.hid hj
    have HPRE := Lib.hid hpre
    have HLIM := Lib.hid hlim
    have HSR := Lib.hid (HS0.out.lim hlim hsz hcbl HS.out HNE.out)
    clear hj hpre hlim
    by_cases hlt : k < c.lits.length
    · have hlt2 : k < c.coefs.length := by have := HLEN.out; omega
      obtain ⟨b1, o1, rfl, hb1, hc1⟩ := HC1.out (by omega)
      obtain ⟨b2, o2, rfl, hb2, hc2⟩ := HC2.out (by omega)
      have k1 := (cell_of_same (o := o1 + k) (HSR.out.below b1 hb1)).trans (hc1 k hlt)
      have k2 := (cell_of_same (o := o2 + k) (HSR.out.below b2 hb2)).trans (hc2 k hlt2)
      have kr := HSR.out.box.cell
      have HLN : Hid (pre.length < c.lits.length) := Lib.hid (by
        have h1 := congrArg List.length HPRE.out
        rw [pvs_len, List.length_take] at h1
        have := Nat.min_le_left k (c.lits.zip c.coefs).length
        omega)
      have HM : Hid ((ix c.lits k, ix c.coefs k) ∈ c.lits.zip c.coefs) := Lib.hid (List.mem_of_getElem? (zip_at hlt HLEN.out))
      have HZ := Lib.hid (zip_take hlt HLEN.out)
      clear hc1 hc2
      obtain ⟨fn, tmps, assign, body, hy, hR⟩ := HY.out pre ⟨_, HM.out⟩ wr HJR.out HLN.out
      dsimp only at hy
      gi_wp2_with (refine hR.mono ?_; rintro e W3 h3; obtain ⟨bb, rfl, hbt, hbf⟩ := yieldEnd2 h3; have HBT := Lib.hid hbt; have HBF := Lib.hid hbf; clear hbt hbf h3)
      case roundEnd =>
        obtain rfl : bb = true := by simpa using ‹(!bb) = false›
        exact ⟨⟨k + 1, pre ++ [_], hlt, by go_num, by rw [pvs_snoc, HPRE.out, HZ.out], (HBT.out (by first | exact rfl | exact trivial)).1, HLIM.out.trans (HBT.out (by first | exact rfl | exact trivial)).2⟩, by simp [intOf]; omega⟩
      obtain rfl : bb = false := by simpa using ‹(!bb) = true›
      refine bodyPost_ret (results_none rfl _ _ _) rfl ?_
      exact ⟨⟨_, rfl⟩, .inr ⟨pre ++ [_], ⟨k + 1, hlt, by rw [pvs_snoc, HPRE.out, HZ.out]⟩, HBF.out (by first | exact rfl | exact trivial)⟩⟩
    · gi_wp2
      go_end0
      obtain rfl : k = c.lits.length := by omega
      exact ⟨⟨_, rfl⟩, .inl ⟨pre, by rw [HPRE.out, List.take_of_length_le (by rw [List.length_zip]; exact Nat.min_le_left _ _)], HJR.out⟩⟩
end Go.Proofs.YtjodocheiejkeaaGreatDoor
namespace Go.Proofs.YtjodocheiejkeaaGreatDoor
open Go.RowKit Go.Shelf
attribute [local go_sem] Oper.semAt_some
theorem blk_ownP {β : Type} (b : Nat) (c : List Value) (t : TypeId) : Own (fun (_ : β) W => Blk W b c t) := fun s X Y row hs hg hrow => by
  have hne : some b ≠ row := fun e' => by
    obtain ⟨_, ho, hc⟩ := hrow b e'.symm
    rw [show X.heap[b]? = _ from hs] at ho
    cases ho
    cases hc
  exact hs.same (hg.block b hs.lt hne)
theorem lim_b {S : List Nat} {w : World} (W : World) (l : Nat) (o o' : Obj) (hl : w.heap.size ≤ l) (h : W.heap[l]? = some o) (hc : o.isCells = false) (hw : o.isWalk = false) : Lim w.heap.size S W (W.putObj l o') :=
  .of_below (belowK_b (w := w) (Nat.le_refl _) W l o o' hl h hc hw) (Nat.le_refl _)
theorem parts_loop {c : PBC} {wi w1 : World} {vl vk : Value} (hL : Ints wi vl c.lits) (hK : Ints wi vk c.coefs) (hlen : c.lits.length = c.coefs.length) {S : List Nat} {cb : Nat}
    (hst : PartSt wi w1 S cb vl vk c.bound) (hS : ∀ s ∈ S, wi.heap.size ≤ s) (hne : cb ∉ S)
    {g : Operand} {ps : Array Tmp} {assign body : Code} {Q : Exit → Act → World → Prop} {a : Act} {n : Nat} (hn : 3 ≤ n)
    (hg : a.eval g = .func (.func 90) #[] #[.pointer (some ⟨cb, 0, none⟩)]) (hps : ps.size = 2)
    (I : List (PV c) → World → Prop) (Ix : Code → List (PV c) → World → Prop) (hI : OwnFrom w1.heap.size I) (hIx : ∀ c', OwnFrom w1.heap.size (Ix c')) (h0 : I [] w1) (a₁ : PV c → Act)
    (hassign : ∀ (l : Nat) (x : PV c) (W : World) (K : Act → World → Prop), K (a₁ x) W →
      assign.wpIn (Fence.wide.inRound l) (n - 1 - 1) Tryz.prog (Exit.then K (fun _ _ _ => False)) { tmps := (ps.zip #[Value.int .i64 x.1.1, .int .i64 x.1.2]).foldl (fun t (p, v) => t.setIfInBounds p v) a.tmps, defers := [] } W)
    (hbody : ∀ (l : Nat) (pre : List (PV c)) (x : PV c) (W : World), I pre W → pre.length < c.lits.length → body.wpIn (Fence.wide.inRound l) (n - 1 - 1) Tryz.prog (ownPostK (Lim w1.heap.size S) I Ix (pre ++ [x]) W) (a₁ x) W)
    (hdone : ∀ (D : Nat) (xs : List (PV c)) (W : World), w1.heap.size ≤ D → pvs xs = c.lits.zip c.coefs → I xs W → W.heap[D]? = some (.deferred (some [])) → Q .normal { a with defers := { target := .collected D, args := #[] } :: a.defers } W)
    (hstop : ∀ (D : Nat) (c' : Code) (pre : List (PV c)) (W : World), w1.heap.size ≤ D → (∃ k, k ≤ c.lits.length ∧ pvs pre = (c.lits.zip c.coefs).take k) → Ix c' pre W → W.heap[D]? = some (.deferred (some [])) → c'.wpIn Fence.wide n Tryz.prog Q { a with defers := { target := .collected D, args := #[] } :: a.defers } W) :
    (Code.rangeFunc g ps assign body).wpIn Fence.wide n Tryz.prog Q a w1 :=
  wpIn_rangeFunc_ownF rfl (by omega) (gf := 90) (lb := #[.pointer (some ⟨cb, 0, none⟩)]) hg trivial (enters_of Tryz.func90 (by kernel_rfl) rfl)
    (parts_stops c wi w1 vl vk hL hK hlen S cb hst hS hne (n - 1) (by omega)) (fun h k => h.trans k) (fun W l o o' hl h hc hw => lim_b W l o o' hl h hc hw) (Below.refl _ _) (fun _ => by rw [hps]; rfl)
    I Ix hI hIx h0 a₁ hassign hbody hdone hstop
end Go.Proofs.YtjodocheiejkeaaGreatDoor
