/- My texts CpW, merged. -/
import Derived.Test.YteblddnoegbalaaGreatM15
import Derived.Test.YteblddnoegbalaaGreatM11
import Derived.Test.YteblddnoegbalaaGreatM10
import Derived.Test.YteblddnoegbalaaGreatM09
import Derived.Test.YteblddnoegbalaaGreatM08
import Derived.Test.YteblddnoegbalaaGreatM05
import Derived.Test.YteblddnoegbalaaGreatM04
import Derived.Test.YteblddnoegbalaaGreatM00
import Derived.Test.YteblddnoegbalaaGreatProg
import Derived.WalkKit
import Derived.Lib.Hide
import Derived.Deep.QuietTactic
import Derived.BigQuiet
import Derived.Test.YteblddnoegbalaaGreatM03
import Derived.WalkSpells
import Derived.Lib.SliceRun
import Derived.MapKept
import Derived.Maps.OwnSet
import Derived.Maps.OwnOps
import Derived.Test.YteblddnoegbalaaGreatM02
import Derived.Test.YteblddnoegbalaaGreatM01
import Derived.Deep.AppendLies
import Derived.Lib.Bytealg
import Derived.Deep.DeepCutAuto
import Derived.RangeFuncNested
import Derived.RangeFuncBound
import Derived.RangeFuncCalls
import Derived.RangeFuncLeaves
import Derived.OwnWalkIn
import Derived.TacticsInMore
import Derived.LoopNIn
import Derived.LoopIn
import Derived.Stop.RegionWithIn
import Derived.Shelf.Abstract
import Derived.Maps.RangeWalk
import Derived.Test.YteblddnoegbalaaGreatM07
import Derived.Test.YteblddnoegbalaaGreatM06
import Derived.Lib.SlicesCompact
import Derived.Shelf.Sort.Plain
import Derived.Shelf.Slices.CompactI
import Derived.Shelf.Slices.In.SortNone
import Derived.Shelf.Strconv.Itoa3
import Derived.Shelf.Strings.BuilderK
import Derived.Shelf.Slices.SearchI
import Derived.Shelf.Slices.Empties
import Derived.Sort.OwnSortedInts
import Derived.Sort.QuietThIn
import Derived.RangeFuncBox
import Derived.Maps.OwnIn
import Derived.Lib.RowBridge
import Derived.Deep.OwnRows
import Derived.Test.YteblddnoegbalaaGreatM16
import Derived.Deep.DeepMust
import Derived.Test.YteblddnoegbalaaGreatM13
import Derived.Deep.AppendSrc
import Derived.Test.YteblddnoegbalaaGreatM14
import Derived.Test.YteblddnoegbalaaGreatM12
import Derived.Laws.EntriesVeiled
import Derived.Test.YteblddnoegbalaaGreatM17

namespace Go.Proofs.YteblddnoegbalaaGreat
open Go.RowKit
theorem cloneQ_any (v : Value) (l : List Int) (w : World) (h : Ints w v l) :
    Calls Tryz.prog 88 #[v] w fun e w' => ∃ v', e = .returned v' ∧ QRow w.heap.size w' v' l ∧ Below w.heap.size w w' :=
  (cloneI_any v l w h).mono fun _ _ ⟨v', e, ho, hb⟩ => ⟨v', e, ho.qrow, hb⟩
theorem runClone (args : Array Value) (w : World) : (callFunc 88 args).run Tryz.prog w = .ok (.enter 88 args) w := by kernel_rfl
theorem runNeg (args : Array Value) (w : World) : (callFunc 114 args).run Tryz.prog w = .ok (.enter 114 args) w := by kernel_rfl
structure CpSt (w : World) (p : GP) (vn vs vr vm : Value) (ob : Nat) (lst : List PBC) (F : Int → List Int) (W : World) : Prop where
  box : Blk W w.heap.size [.int .i64 p.n, vn, vs, vr, vm] 33
  sup : ∃ G, SupM w.heap.size (ob + 1) F G W ∧ OutC w.heap.size ob (supB G) lst W
  below : Below w.heap.size w W
structure CpR (w : World) (p : GP) (vn vs vr vm : Value) (ob rb : Nat) (r : GR) (x1 x4 x5 : Option Addr) (y1 y4 y5 : Nat) (lst : List PBC) (F : Int → List Int) (W : World) : Prop where
  st : CpSt w p vn vs vr vm ob lst F W
  rule : Blk W rb [.bool r.choice, .slice x1 r.head.length y1, .bool r.sum, .int .i64 r.bound, .slice x4 r.body.length y4, .slice x5 r.w.length y5] 66
section
variable {w W W' : World} {p : GP} {vn vs vr vm : Value} {ob rb : Nat} {r : GR} {x1 x4 x5 : Option Addr} {y1 y4 y5 : Nat} {lst lst' : List PBC} {F : Int → List Int}
theorem CpSt.on (h : CpSt w p vn vs vr vm ob lst F W) (hb : Below W.heap.size W W') : CpSt w p vn vs vr vm ob lst F W' :=
  ⟨h.box.below hb, let ⟨G, hG, hO⟩ := h.sup; ⟨G, hG.below hb, hO.below hb⟩, bon h.below hb⟩
theorem CpSt.sup' (h : CpSt w p vn vs vr vm ob lst F W) : ∃ G, SupM w.heap.size (ob + 1) F G W ∧ OutC w.heap.size ob (supB G) lst W := h.sup
theorem CpR.sup' (h : CpR w p vn vs vr vm ob rb r x1 x4 x5 y1 y4 y5 lst F W) : ∃ G, SupM w.heap.size (ob + 1) F G W ∧ OutC w.heap.size ob (supB G) lst W := h.st.sup
theorem CpSt.put {G : Int → Option Value} (h : CpSt w p vn vs vr vm ob lst F W) (hG : SupM w.heap.size (ob + 1) F G W) (ho : OutC w.heap.size ob (supB G) lst' W') (hc : CLim w.heap.size W W') : CpSt w p vn vs vr vm ob lst' F W' :=
  ⟨hc.blk h.box (by decide) (by decide), ⟨G, hG.clim hc, ho⟩, h.below.trans (hc.below h.below.size)⟩
theorem CpR.on (h : CpR w p vn vs vr vm ob rb r x1 x4 x5 y1 y4 y5 lst F W) (hb : Below W.heap.size W W') : CpR w p vn vs vr vm ob rb r x1 x4 x5 y1 y4 y5 lst F W' := ⟨h.st.on hb, h.rule.below hb⟩
theorem CpR.put {G : Int → Option Value} (h : CpR w p vn vs vr vm ob rb r x1 x4 x5 y1 y4 y5 lst F W) (hG : SupM w.heap.size (ob + 1) F G W) (ho : OutC w.heap.size ob (supB G) lst' W') (hc : CLim w.heap.size W W') : CpR w p vn vs vr vm ob rb r x1 x4 x5 y1 y4 y5 lst' F W' :=
  ⟨h.st.put hG ho hc, hc.blk h.rule (by decide) (by decide)⟩
theorem CpR.push {G : Int → Option Value} {x b : Int} {v3 : Value} {o : Obj} {w3 w7 : World} (h : CpR w p vn vs vr vm ob rb r x1 x4 x5 y1 y4 y5 lst F W) (hob : w.heap.size ≤ ob) (hG : SupM w.heap.size (ob + 1) F G W) (hO : OutC w.heap.size ob (supB G) lst W)
    (hq : QRow w.heap.size w3 v3 (F x ++ [b])) (hg : (W.alloc o).grownBy w3 (rowV G x).ownBlock) (ho : v3.ownBlock = (rowV G x).ownBlock ∨ v3.ownBlock = some (W.alloc o).heap.size)
    (hm : MapIs (Value.int .i64) w7 (ob + 1) (upd G x (some v3))) (hg2 : w3.grownBy w7 (some (ob + 1))) : CpR w p vn vs vr vm ob rb r x1 x4 x5 y1 y4 y5 lst (setL' F x (F x ++ [b])) w7 := by
  have hal := bal (Below.refl W.heap.size W) o
  have hGA := hG.below hal
  have hb1 : Below w.heap.size W w3 := (hal.mono h.st.below.size).trans (below_row hg (by have := h.st.below.size; have := hal.size; omega) fun g e => ((hG.row x).base e).1)
  have hb2 : Below w.heap.size w3 w7 := ⟨hg2.os, hg2.tape, hg2.output, hg2.size, fun i hi => hg2.block i (by have := h.st.below.size; have := hb1.size; omega) (fun e => by
    have e2 : i = ob + 1 := by simpa using e
    omega)⟩
  exact ⟨⟨hGA.blk1 hg hg2 (h.st.box.below hal) (by decide), ⟨_, hGA.push hq hg ho hm hg2 (hGA.map1 hg), hGA.out1 hg hg2 ho (hO.below hal)⟩, (h.st.below.trans hb1).trans hb2⟩, hGA.blk1 hg hg2 (h.rule.below hal) (by decide)⟩
theorem SupM.look {B mb : Nat} {F : Int → List Int} {G : Int → Option Value} {w : World} (h : SupM B mb F G w) (x : Int) : ∃ a n c, rowV G x = .slice a n c ∧ (Instr.lookup 159 (.map (some mb)) (.int .i64 x) false).run Tryz.prog w = .ok (.slice a n c) w := by
  obtain ⟨a, n, c, e⟩ := (h.row x).form
  refine ⟨a, n, c, e, ?_⟩
  have := h.map.lookup (P := Tryz.prog) kvInt Tryz.underlying159 Tryz.underlying3 (z := .slice none 0 0) (by kernel_rfl) x
  rw [show (G x).getD (.slice none 0 0) = rowV G x from rfl, e] at this
  exact this
theorem compH_len (r : GR) (b : Int) : (compH r b).length ≤ r.body.length + 2 := by
  unfold compH
  split <;> simp
end
theorem take_map {α : Type} (f : Int → α) {l : List Int} {j : Nat} (hj : j < l.length) : (l.take (j + 1)).map f = (l.take j).map f ++ [f (ix l j)] := by
  rw [List.take_add_one, List.getElem?_eq_getElem hj, List.map_append, ix_get hj]
  rfl
theorem wrap_small {x : Int} (h : -100000 ≤ x ∧ x ≤ 100000) : IntKind.i64.wrap x = x := by
  rw [IntKind.wrap_i64]; omega
def CpRel (w : World) (p : GP) (vn vs vr vm : Value) (ob : Nat) (i : Value) (wx : World) : Prop :=
  ∃ k : Nat, k ≤ p.rules.length ∧ i = .int .i64 k ∧ CpSt w p vn vs vr vm ob (compTo p k) (fun a => supAt' p a k) wx
def CompOut (B : Nat) (v : Value) (l : List PBC) (w : World) : Prop := ∃ L, MineC B v L w ∧ L.map (·.1) = l ∧ L.length ≤ 1000000000
set_option maxHeartbeats 8000000 in
set_option maxRecDepth 100000 in
theorem compl_own (v : Value) (p : GP) (w : World) (h : ProgIs w v p) :
    Calls Tryz.prog 73 #[v] w fun e w' => ∃ vo, e = .returned (.tuple #[vo, .int .i64 (if validE p = 0 then 0 else 2)]) ∧ CompOut w.heap.size vo (if validE p = 0 then compL p else []) w' ∧ Below w.heap.size w w' := by
  have h0 := h
  obtain ⟨vn, vs, vr, vm, rfl, hPS⟩ := h
  have hpn := hPS.n
  obtain ⟨a1, c1, rfl, -, hl1, -, hcellR⟩ := hPS.rules.form
  have hal := bal (Below.refl w.heap.size w) (.cells #[.int .i64 p.n, vn, vs, .slice a1 p.rules.length c1, vm] 33)
  have HP := Lib.hid (h0.below hal)
  have HBX := Lib.hid (Blk.new w [.int .i64 p.n, vn, vs, .slice a1 p.rules.length c1, vm] 33)
  have HAL := Lib.hid hal
  have HCR := Lib.hid hcellR
  unfold InI at hpn
  clear h0 hPS hal hcellR
  by_cases hv : validE p = 0
  · have hve : (validE p != 0) = false := by simp [hv]
    have HV := Lib.hid hv
    have HCV := Lib.hid (compV_valid hv)
    have hn0 := (validP hv).n
    have hn1 := (validP hv).rules
    have hmm := @run_makeMap Tryz.prog
    rw [if_pos hv, if_pos hv]
    clear hv
    go_enter Tryz.func73, Tryz.ntmps73
    go_upto_region 1 with fail
    have kx := HBX.out.cell
    generalize w.alloc (.cells #[.int .i64 p.n, vn, vs, .slice a1 p.rules.length c1, vm] 33) = W0 at *
    go_upto_region 7 with (go_at_call 39; (with_reducible refine (valid_any _ p _ HP.out).mono ?_); rintro e w1 ⟨rfl, hb1⟩; have HB1 := Lib.hid hb1; clear hb1)
    clear hmm kx
    have hst : CpSt w p vn vs (.slice a1 p.rules.length c1) vm w1.heap.size (compTo p 0) (fun a => supAt' p a 0) ((w1.alloc (.cells #[.slice none 0 0] 22)).alloc (.map #[] 0)) := by
      have hb := bal (bal (Below.refl w1.heap.size w1) (.cells #[.slice none 0 0] 22)) (.map #[] 0)
      have hB : w.heap.size ≤ w1.heap.size := by have := HB1.out.size; have := HBX.out.lt; omega
      refine ⟨(HBX.out.below HB1.out).below hb, ⟨fun _ => none, ⟨MapIs.made2 _ _ (by simp), fun x => QRow.nil _ _, fun x y _ g e => by cases e⟩, _, [], (Blk.new w1 [.slice none 0 0] _).alloc _, MineC.nil _ _, rfl, fun q hq => by cases hq⟩, bon (bon HAL.out HB1.out) hb⟩
    have hob : w.heap.size ≤ w1.heap.size := by have := HB1.out.size; have := HBX.out.lt; omega
    have HST := Lib.hid hst
    have kx := hst.box.cell
    clear hst
    generalize (w1.alloc (.cells #[.slice none 0 0] 22)).alloc (.map #[] 0) = W2 at *
    generalize hoe : w1.heap.size = ob at *
    clear HB1 HBX HP HAL
    go_upto_region 8 with fail
    clear kx
    go_loopw [28] (fun i wx => CpRel w p vn vs (.slice a1 p.rules.length c1) vm ob i wx) (fun i _ => p.rules.length - (intOf i).toNat)
    case atStart => exact ⟨0, Nat.zero_le _, rfl, HST.out⟩
    case round =>
      obtain ⟨k, hk, rfl, hstk⟩ := hrel
      have HSK := Lib.hid hstk
      have kx := hstk.box.cell
      have hzk := hstk.box.lt
      have hbk := hstk.below
      clear hstk
      by_cases hlt : k < p.rules.length
      · obtain ⟨bR, oR, rfl, hbR, hcR⟩ := HCR.out (by omega)
        obtain ⟨vh, vb, vw, ⟨q0, q1, q2, q3, q4, q5⟩, hsl⟩ := hcR k hlt
        obtain ⟨x1, y1, rfl, -, -, -, -⟩ := hsl.head.form
        obtain ⟨x4, y4, rfl, -, -, -, -⟩ := hsl.body.form
        obtain ⟨x5, y5, rfl, -, -, -, -⟩ := hsl.wts.form
        have hk0 := (bcell hbk _ _ hbR).trans q0
        have hk1 := (bcell hbk _ _ hbR).trans q1
        have hk2 := (bcell hbk _ _ hbR).trans q2
        have hk3 := (bcell hbk _ _ hbR).trans q3
        have hk4 := (bcell hbk _ _ hbR).trans q4
        have hk5 := (bcell hbk _ _ hbR).trans q5
        have HRV := Lib.hid (HCV.out.rule k hlt)
        have HSL := Lib.hid hsl
        have hbv := HCV.out.bvar hlt
        have hlk := HCV.out.lenTo hk
        have hlen := (HCV.out.rule k hlt).len
        obtain ⟨r, hr⟩ : ∃ r, ixR p.rules k = r := ⟨_, rfl⟩
        rw [hr] at hk0 hk1 hk2 hk3 hk4 hk5 HRV HSL hlen
        have HR := Lib.hid hr
        clear hcR q0 q1 q2 q3 q4 q5 hsl hr
        obtain ⟨bI, hbI⟩ : ∃ bI, p.n + 1 + (k : Int) = bI := ⟨_, rfl⟩
        rw [hbI] at hbv
        have HBI := Lib.hid hbI
        have HBV := Lib.hid hbv
        have hbI2 : 1 ≤ bI ∧ bI ≤ 60000 := ⟨by have := hbv.1; omega, hbv.2⟩
        clear hbv
        obtain ⟨lst, hle⟩ : ∃ l, compTo p k = l := ⟨_, rfl⟩
        obtain ⟨F, hFe⟩ : ∃ F, (fun a => supAt' p a k) = F := ⟨_, rfl⟩
        have hst1 := HSK.out
        rw [hle, hFe] at hst1
        rw [hle] at hlk
        have HLE := Lib.hid hle
        have HFE := Lib.hid hFe
        clear hle hFe HSK
        go_upto_if 39 with fail
        have hal1 := bal (Below.refl wr.heap.size wr) (.cells #[.bool r.choice, .slice x1 r.head.length y1, .bool r.sum, .int .i64 r.bound, .slice x4 r.body.length y4, .slice x5 r.w.length y5] 66)
        have hcr : CpR w p vn vs (.slice (some ⟨bR, oR, none⟩) p.rules.length c1) vm ob wr.heap.size r x1 x4 x5 y1 y4 y5 lst F (wr.alloc (.cells #[.bool r.choice, .slice x1 r.head.length y1, .bool r.sum, .int .i64 r.bound, .slice x4 r.body.length y4, .slice x5 r.w.length y5] 66)) := ⟨hst1.on hal1, Blk.new wr [.bool r.choice, .slice x1 r.head.length y1, .bool r.sum, .int .i64 r.bound, .slice x4 r.body.length y4, .slice x5 r.w.length y5] _⟩
        have HST := Lib.hid hcr
        clear hst1 hal1 hcr hk0 hk1 hk2 hk3 hk4 hk5 kx hbk
        generalize wr.alloc (.cells #[.bool r.choice, .slice x1 r.head.length y1, .bool r.sum, .int .i64 r.bound, .slice x4 r.body.length y4, .slice x5 r.w.length y5] 66) = W1 at *
        generalize hrb : wr.heap.size = rb at *
        have hBO : w.heap.size ≤ ob := by omega
        go_cut [] (fun wx => CpR w p vn vs (.slice (some ⟨bR, oR, none⟩) p.rules.length c1) vm ob rb r x1 x4 x5 y1 y4 y5 (lst ++ compH r bI) F wx)
        case first =>
          have HRB := Lib.hid HST.out.rule
          have HRL := Lib.hid HST.out.rule.lt
          have kr := HST.out.rule.cell
          have hlst : lst.length ≤ 1000000000 := by omega
          have HIB := Lib.hid (HSL.out.body.below HST.out.st.below)
          cases hs : r.sum with
          | true =>
            obtain ⟨g1, g2, g3, g4, g5⟩ := HRV.out.sum hs
            have HCH : Hid (compH r bI = [(normP (r.body ++ [-bI]) (r.w ++ [r.bound]) r.bound).1, (normP (negL r.body ++ [bI]) (r.w ++ [max (restI r) 0]) (restI r)).1]) := Lib.hid (by unfold compH; rw [if_pos hs])
            have HIW := Lib.hid (HSL.out.wts.below HST.out.st.below)
            have hwc := fun j (hj : j < r.w.length) => HIW.out.at hj
            have hsm := fun j (hj : j ≤ r.w.length) => sumTo_mono g2 r.w.length j hj (Nat.le_refl _)
            have hsp := fun j (hj : j ≤ r.w.length) => (sumTo_ge g2 j hj).1
            have HG2 := Lib.hid g2
            have HWC := Lib.hid hwc
            have HSM := Lib.hid hsm
            have HSP := Lib.hid hsp
            have hre : 1 - r.bound + sumTo r.w r.w.length = restI r := rfl
            have HRE := Lib.hid hre
            have HG1 := Lib.hid g1
            have hwl : r.w.length ≤ 8000 := by omega
            clear hwc hsm hsp g1 g2 hre
            go_wp2_with fail
            go_loop [11, 46] (fun t i => ∃ j : Nat, j ≤ r.w.length ∧ i = .int .i64 j ∧ t = .int .i64 (1 - r.bound + sumTo r.w j)) (fun _ i => r.w.length - (intOf i).toNat)
            case atStart => exact ⟨0, Nat.zero_le _, rfl, by simp [sumTo]⟩
            case round =>
              obtain ⟨j, hj, rfl, rfl⟩ := hrel
              have hs1 := HSM.out j hj
              have hs2 := HSP.out j hj
              by_cases hjl : j < r.w.length
              · obtain ⟨b5, o5, rfl, hb5, hc5⟩ := HWC.out j hjl
                have hs3 : sumTo r.w (j + 1) = sumTo r.w j + ix r.w j := rfl
                have hs4 := HSM.out (j + 1) hjl
                have hs5 := HG2.out j hjl
                have HS3 := Lib.hid hs3
                rw [hs3] at hs4
                clear hs3
                go_wp2
                first
                  | (go_round
                     case rel => (exact ⟨j + 1, hjl, by go_num, by rw [HS3.out, Int.add_assoc]⟩)
                     case measure => (simp [intOf]; omega))
                  | (refine ⟨?_, ?_⟩
                     · (exact ⟨j + 1, hjl, by go_num, by rw [HS3.out, Int.add_assoc]⟩)
                     · (simp [intOf]; omega))
              · obtain rfl : j = r.w.length := by omega
                have hrr : -1048576 ≤ restI r ∧ restI r ≤ 1048577 := by have := HRE.out; omega
                have hwn : IntKind.i64.wrap (-bI) = -bI := by rw [IntKind.wrap_i64]; omega
                have HNB : Hid (InI (-bI)) := Lib.hid (by unfold InI; omega)
                have HPB : Hid (InI bI) := Lib.hid (by unfold InI; omega)
                have HBD : Hid (InI r.bound) := Lib.hid (by unfold InI; omega)
                have HRI : Hid (InI (restI r)) := Lib.hid (by unfold InI; omega)
                have HMX : Hid (InI (max (restI r) 0)) := Lib.hid (by unfold InI; omega)
                have HNR : Hid (∀ x ∈ r.body, -1000000 ≤ x ∧ x ≤ 1000000) := Lib.hid (fun x hx => by have := HRV.out.body x hx; omega)
                go_upto_region 18 with fail
                refine wp_region_invK (RA.J W1 (.func (.func 112) #[] #[.pointer (some ⟨ob, 0, none⟩)]) rb (.slice x4 r.body.length y4) (.slice x5 r.w.length y5) r.body r.w bI r.bound 0 (-bI) r.bound (CpR w p vn vs (.slice (some ⟨bR, oR, none⟩) p.rules.length c1) vm ob rb r x1 x4 x5 y1 y4 y5 (lst ++ [(normP (r.body ++ [-bI]) (r.w ++ [r.bound]) r.bound).1]) F)) (by kernel_rfl) (by kernel_rfl) RA.start0 ?step ?fin
                case step =>
                  intro i hi18 vals Lf wx hL hdep hcl hW
                  have h18 : i < 18 := hi18
                  rcases (by omega : i = 0 ∨ i = 1 ∨ i = 2 ∨ i = 3 ∨ i = 4 ∨ i = 5 ∨ i = 6 ∨ i = 7 ∨ i = 8 ∨ i = 9 ∨ i = 10 ∨ i = 11 ∨ i = 12 ∨ i = 13 ∨ i = 14 ∨ i = 15 ∨ i = 16 ∨ i = 17) with rfl | rfl | rfl | rfl | rfl | rfl | rfl | rfl | rfl | rfl | rfl | rfl | rfl | rfl | rfl | rfl | rfl | rfl
                  · have hz : Lf 17 = false := by
                      cases e : Lf 17 with
                      | false => rfl
                      | true => rw [hcl 17 (by decide) e 0 (by decide) (by kernel_rfl)] at hL; cases hL
                    have HW := Lib.hid (RA.J.out hz hW)
                    clear hW
                    refine StepK.of rfl rfl (fun K' hK => ?_)
                    simp only [opAt, List.getD_cons_zero, Afr, fr, Act.put, List.setIfInBounds_toArray, List.set_cons_succ, List.set_cons_zero] at hK ⊢
                    go_simp
                    exact hK _ _ (RA.J.on hz (by decide) (HW.out.quiet 0 (by omega)))
                  · have hz : Lf 17 = false := by
                      cases e : Lf 17 with
                      | false => rfl
                      | true => rw [hcl 17 (by decide) e 1 (by decide) (by kernel_rfl)] at hL; cases hL
                    have HW := Lib.hid (RA.J.out hz hW)
                    clear hW
                    refine StepK.of rfl rfl (fun K' hK => ?_)
                    simp only [opAt, List.getD_cons_zero, List.getD_cons_succ, Afr, fr, dstOf, if_true, List.getElem?_toArray, List.getElem?_cons_zero, Option.bind_some, Act.put, List.setIfInBounds_toArray, List.set_cons_succ, List.set_cons_zero] at hK ⊢
                    go_simp
                    exact hK _ _ (RA.J.on hz (by decide) (HW.out.quiet 1 (by omega)))
                  · have hz : Lf 17 = false := by
                      cases e : Lf 17 with
                      | false => rfl
                      | true => rw [hcl 17 (by decide) e 2 (by decide) (by kernel_rfl)] at hL; cases hL
                    have HW := Lib.hid (RA.J.out hz hW)
                    clear hW
                    have v1 := HW.out.t1 (hdep 1 (by decide) (by kernel_rfl))
                    have hc := (bcell HW.out.below _ 4 HRL.out).trans (HRB.out.cell 4)
                    simp only [List.getElem?_cons_zero, List.getElem?_cons_succ] at hc
                    refine StepK.of rfl rfl (fun K' hK => ?_)
                    simp only [v1, opAt, List.getD_cons_zero, List.getD_cons_succ, Afr, fr, dstOf, if_true, List.getElem?_toArray, List.getElem?_cons_zero, List.getElem?_cons_succ, Option.bind_some, Act.put, List.setIfInBounds_toArray, List.set_cons_succ, List.set_cons_zero] at hK ⊢
                    go_simp
                    exact hK _ _ (RA.J.on hz (by decide) (HW.out.quiet 2 (by omega)))
                  · have hz : Lf 17 = false := by
                      cases e : Lf 17 with
                      | false => rfl
                      | true => rw [hcl 17 (by decide) e 3 (by decide) (by kernel_rfl)] at hL; cases hL
                    have HW := Lib.hid (RA.J.out hz hW)
                    clear hW
                    have v2 := HW.out.t2 (hdep 2 (by decide) (by kernel_rfl))
                    have h7 : Lf 7 = false := (by
                      cases e : Lf 7 with
                      | false => rfl
                      | true => rw [hcl 7 (by decide) e 3 (by decide) (by kernel_rfl)] at hL; cases hL)
                    have h10 : Lf 10 = false := (by
                      cases e : Lf 10 with
                      | false => rfl
                      | true => rw [hcl 10 (by decide) e 3 (by decide) (by kernel_rfl)] at hL; cases hL)
                    have h14 : Lf 14 = false := (by
                      cases e : Lf 14 with
                      | false => rfl
                      | true => rw [hcl 14 (by decide) e 3 (by decide) (by kernel_rfl)] at hL; cases hL)
                    refine StepK.call rfl ⟨_, _, _, runClone _ _⟩ (fun K' hK => ?_)
                    simp only [v2, opAt, List.getD_cons_zero, List.getD_cons_succ, Afr, fr, dstOf, if_true, List.getElem?_toArray, List.getElem?_cons_zero, List.getElem?_cons_succ, Option.bind_some, Act.put, List.setIfInBounds_toArray, List.set_cons_succ, List.set_cons_zero] at hK ⊢
                    go_simp
                    refine (cloneQ_any _ r.body _ (HIB.out.below HW.out.below)).mono ?_
                    rintro e w9 ⟨v9, rfl, hq9, hb9⟩
                    exact hK _ _ (RA.J.on hz (by decide) (HW.out.callA hL h7 h10 h14 hb9 hq9))
                  · have hz : Lf 17 = false := by
                      cases e : Lf 17 with
                      | false => rfl
                      | true => rw [hcl 17 (by decide) e 4 (by decide) (by kernel_rfl)] at hL; cases hL
                    have HW := Lib.hid (RA.J.out hz hW)
                    clear hW
                    refine StepK.of rfl rfl (fun K' hK => ?_)
                    simp only [opAt, List.getD_cons_zero, List.getD_cons_succ, Afr, fr, dstOf, if_true, List.getElem?_toArray, List.getElem?_cons_zero, List.getElem?_cons_succ, Option.bind_some, Act.put, List.setIfInBounds_toArray, List.set_cons_succ, List.set_cons_zero] at hK ⊢
                    go_simp
                    exact hK _ _ (RA.J.on hz (by decide) (HW.out.quiet 4 (by omega)))
                  · have hz : Lf 17 = false := by
                      cases e : Lf 17 with
                      | false => rfl
                      | true => rw [hcl 17 (by decide) e 5 (by decide) (by kernel_rfl)] at hL; cases hL
                    have HW := Lib.hid (RA.J.out hz hW)
                    clear hW
                    have v4 := HW.out.t4 (hdep 4 (by decide) (by kernel_rfl))
                    refine StepK.of rfl rfl (fun K' hK => ?_)
                    simp only [v4, opAt, List.getD_cons_zero, List.getD_cons_succ, Afr, fr, dstOf, if_true, List.getElem?_toArray, List.getElem?_cons_zero, List.getElem?_cons_succ, Option.bind_some, Act.put, List.setIfInBounds_toArray, List.set_cons_succ, List.set_cons_zero] at hK ⊢
                    go_simp
                    exact hK _ _ (RA.J.on hz (by decide) (HW.out.quiet 5 (by omega)))
                  · have hz : Lf 17 = false := by
                      cases e : Lf 17 with
                      | false => rfl
                      | true => rw [hcl 17 (by decide) e 6 (by decide) (by kernel_rfl)] at hL; cases hL
                    have HW := Lib.hid (RA.J.out hz hW)
                    clear hW
                    have v5 := HW.out.t5 (hdep 5 (by decide) (by kernel_rfl))
                    have ha : Lf 7 = false := (by
                      cases e : Lf 7 with
                      | false => rfl
                      | true => rw [hcl 7 (by decide) e 6 (by decide) (by kernel_rfl)] at hL; cases hL)
                    refine StepK.of rfl rfl (fun K' hK => ?_)
                    simp only [v5, opAt, List.getD_cons_zero, List.getD_cons_succ, Afr, fr, dstOf, if_true, List.getElem?_toArray, List.getElem?_cons_zero, List.getElem?_cons_succ, Option.bind_some, Act.put, List.setIfInBounds_toArray, List.set_cons_succ, List.set_cons_zero] at hK ⊢
                    go_simp
                    exact hK _ _ (RA.J.on hz (by decide) (HW.out.buildA ha))
                  · have hz : Lf 17 = false := by
                      cases e : Lf 17 with
                      | false => rfl
                      | true => rw [hcl 17 (by decide) e 7 (by decide) (by kernel_rfl)] at hL; cases hL
                    have HW := Lib.hid (RA.J.out hz hW)
                    clear hW
                    have h3 := hdep 3 (by decide) (by kernel_rfl)
                    have h6 := hdep 6 (by decide) (by kernel_rfl)
                    have h10 : Lf 10 = false := (by
                      cases e : Lf 10 with
                      | false => rfl
                      | true => rw [hcl 10 (by decide) e 7 (by decide) (by kernel_rfl)] at hL; cases hL)
                    have h14 : Lf 14 = false := (by
                      cases e : Lf 14 with
                      | false => rfl
                      | true => rw [hcl 14 (by decide) e 7 (by decide) (by kernel_rfl)] at hL; cases hL)
                    obtain ⟨g8, v6, hb8⟩ := HW.out.sa h6 hL
                    have hq := HW.out.ra h3
                    simp only [hL, Bool.false_eq_true, if_false] at hq
                    have hsz := HW.out.below.size
                    refine StepK.of rfl rfl (fun K' hK => ?_)
                    simp only [v6, opAt, List.getD_cons_zero, List.getD_cons_succ, Afr, fr, dstOf, if_true, List.getElem?_toArray, List.getElem?_cons_zero, List.getElem?_cons_succ, Option.bind_some, Act.put, List.setIfInBounds_toArray, List.set_cons_succ, List.set_cons_zero] at hK ⊢
                    refine wp_appendQ (.tmp 57) (.tmp 60) 23 Tryz.underlying23 rfl W1.heap.size _ (r.body) (-bI) rfl hq g8 1 rfl hb8 HNB.out (by first | omega | (rw [negL_len]; omega)) hsz ?_
                    intro v9 w9 hq9 hg9 ho9
                    exact hK _ _ (RA.J.on hz (by decide) (HW.out.appA h3 hL h10 h14 hq9 hg9 ho9))
                  · have hz : Lf 17 = false := by
                      cases e : Lf 17 with
                      | false => rfl
                      | true => rw [hcl 17 (by decide) e 8 (by decide) (by kernel_rfl)] at hL; cases hL
                    have HW := Lib.hid (RA.J.out hz hW)
                    clear hW
                    refine StepK.of rfl rfl (fun K' hK => ?_)
                    simp only [opAt, List.getD_cons_zero, List.getD_cons_succ, Afr, fr, dstOf, if_true, List.getElem?_toArray, List.getElem?_cons_zero, List.getElem?_cons_succ, Option.bind_some, Act.put, List.setIfInBounds_toArray, List.set_cons_succ, List.set_cons_zero] at hK ⊢
                    go_simp
                    exact hK _ _ (RA.J.on hz (by decide) (HW.out.quiet 8 (by omega)))
                  · have hz : Lf 17 = false := by
                      cases e : Lf 17 with
                      | false => rfl
                      | true => rw [hcl 17 (by decide) e 9 (by decide) (by kernel_rfl)] at hL; cases hL
                    have HW := Lib.hid (RA.J.out hz hW)
                    clear hW
                    have v8 := HW.out.t8 (hdep 8 (by decide) (by kernel_rfl))
                    have hc := (bcell HW.out.below _ 5 HRL.out).trans (HRB.out.cell 5)
                    simp only [List.getElem?_cons_zero, List.getElem?_cons_succ] at hc
                    refine StepK.of rfl rfl (fun K' hK => ?_)
                    simp only [v8, opAt, List.getD_cons_zero, List.getD_cons_succ, Afr, fr, dstOf, if_true, List.getElem?_toArray, List.getElem?_cons_zero, List.getElem?_cons_succ, Option.bind_some, Act.put, List.setIfInBounds_toArray, List.set_cons_succ, List.set_cons_zero] at hK ⊢
                    go_simp
                    exact hK _ _ (RA.J.on hz (by decide) (HW.out.quiet 9 (by omega)))
                  · have hz : Lf 17 = false := by
                      cases e : Lf 17 with
                      | false => rfl
                      | true => rw [hcl 17 (by decide) e 10 (by decide) (by kernel_rfl)] at hL; cases hL
                    have HW := Lib.hid (RA.J.out hz hW)
                    clear hW
                    have v9 := HW.out.t9 (hdep 9 (by decide) (by kernel_rfl))
                    have h3 := hdep 3 (by decide) (by kernel_rfl)
                    have h7 := hdep 7 (by decide) (by kernel_rfl)
                    have h14 : Lf 14 = false := (by
                      cases e : Lf 14 with
                      | false => rfl
                      | true => rw [hcl 14 (by decide) e 10 (by decide) (by kernel_rfl)] at hL; cases hL)
                    refine StepK.call rfl ⟨_, _, _, runClone _ _⟩ (fun K' hK => ?_)
                    simp only [v9, opAt, List.getD_cons_zero, List.getD_cons_succ, Afr, fr, dstOf, if_true, List.getElem?_toArray, List.getElem?_cons_zero, List.getElem?_cons_succ, Option.bind_some, Act.put, List.setIfInBounds_toArray, List.set_cons_succ, List.set_cons_zero] at hK ⊢
                    go_simp
                    refine (cloneQ_any _ r.w _ (HIW.out.below HW.out.below)).mono ?_
                    rintro e w9 ⟨v9, rfl, hq9, hb9⟩
                    exact hK _ _ (RA.J.on hz (by decide) (HW.out.callB h3 h7 hL h14 hb9 hq9))
                  · have hz : Lf 17 = false := by
                      cases e : Lf 17 with
                      | false => rfl
                      | true => rw [hcl 17 (by decide) e 11 (by decide) (by kernel_rfl)] at hL; cases hL
                    have HW := Lib.hid (RA.J.out hz hW)
                    clear hW
                    refine StepK.of rfl rfl (fun K' hK => ?_)
                    simp only [opAt, List.getD_cons_zero, List.getD_cons_succ, Afr, fr, dstOf, if_true, List.getElem?_toArray, List.getElem?_cons_zero, List.getElem?_cons_succ, Option.bind_some, Act.put, List.setIfInBounds_toArray, List.set_cons_succ, List.set_cons_zero] at hK ⊢
                    go_simp
                    exact hK _ _ (RA.J.on hz (by decide) (HW.out.quiet 11 (by omega)))
                  · have hz : Lf 17 = false := by
                      cases e : Lf 17 with
                      | false => rfl
                      | true => rw [hcl 17 (by decide) e 12 (by decide) (by kernel_rfl)] at hL; cases hL
                    have HW := Lib.hid (RA.J.out hz hW)
                    clear hW
                    have v11 := HW.out.t11 (hdep 11 (by decide) (by kernel_rfl))
                    have hc := (bcell HW.out.below _ 3 HRL.out).trans (HRB.out.cell 3)
                    simp only [List.getElem?_cons_zero, List.getElem?_cons_succ] at hc
                    refine StepK.of rfl rfl (fun K' hK => ?_)
                    simp only [v11, opAt, List.getD_cons_zero, List.getD_cons_succ, Afr, fr, dstOf, if_true, List.getElem?_toArray, List.getElem?_cons_zero, List.getElem?_cons_succ, Option.bind_some, Act.put, List.setIfInBounds_toArray, List.set_cons_succ, List.set_cons_zero] at hK ⊢
                    go_simp
                    exact hK _ _ (RA.J.on hz (by decide) (HW.out.quiet 12 (by omega)))
                  · have hz : Lf 17 = false := by
                      cases e : Lf 17 with
                      | false => rfl
                      | true => rw [hcl 17 (by decide) e 13 (by decide) (by kernel_rfl)] at hL; cases hL
                    have HW := Lib.hid (RA.J.out hz hW)
                    clear hW
                    have v12 := HW.out.t12 (hdep 12 (by decide) (by kernel_rfl))
                    have ha : Lf 14 = false := (by
                      cases e : Lf 14 with
                      | false => rfl
                      | true => rw [hcl 14 (by decide) e 13 (by decide) (by kernel_rfl)] at hL; cases hL)
                    refine StepK.of rfl rfl (fun K' hK => ?_)
                    simp only [v12, opAt, List.getD_cons_zero, List.getD_cons_succ, Afr, fr, dstOf, if_true, List.getElem?_toArray, List.getElem?_cons_zero, List.getElem?_cons_succ, Option.bind_some, Act.put, List.setIfInBounds_toArray, List.set_cons_succ, List.set_cons_zero] at hK ⊢
                    go_simp
                    exact hK _ _ (RA.J.on hz (by decide) (HW.out.buildB ha))
                  · have hz : Lf 17 = false := by
                      cases e : Lf 17 with
                      | false => rfl
                      | true => rw [hcl 17 (by decide) e 14 (by decide) (by kernel_rfl)] at hL; cases hL
                    have HW := Lib.hid (RA.J.out hz hW)
                    clear hW
                    have h10 := hdep 10 (by decide) (by kernel_rfl)
                    have h13 := hdep 13 (by decide) (by kernel_rfl)
                    have h3 := hdep 3 (by decide) (by kernel_rfl)
                    have h7 := hdep 7 (by decide) (by kernel_rfl)
                    obtain ⟨g8, v13, hb8, -⟩ := HW.out.sb h13 hL
                    have hq := HW.out.rb h10
                    simp only [hL, Bool.false_eq_true, if_false] at hq
                    have hsz := HW.out.below.size
                    refine StepK.of rfl rfl (fun K' hK => ?_)
                    simp only [v13, opAt, List.getD_cons_zero, List.getD_cons_succ, Afr, fr, dstOf, if_true, List.getElem?_toArray, List.getElem?_cons_zero, List.getElem?_cons_succ, Option.bind_some, Act.put, List.setIfInBounds_toArray, List.set_cons_succ, List.set_cons_zero] at hK ⊢
                    refine wp_appendQ (.tmp 64) (.tmp 67) 23 Tryz.underlying23 rfl W1.heap.size _ (r.w) (r.bound) rfl hq g8 1 rfl hb8 HBD.out (by omega) hsz ?_
                    intro v9 w9 hq9 hg9 ho9
                    exact hK _ _ (RA.J.on hz (by decide) (HW.out.appB h3 h7 h10 hL hq9 hg9 ho9))
                  · have hz : Lf 17 = false := by
                      cases e : Lf 17 with
                      | false => rfl
                      | true => rw [hcl 17 (by decide) e 15 (by decide) (by kernel_rfl)] at hL; cases hL
                    have HW := Lib.hid (RA.J.out hz hW)
                    clear hW
                    refine StepK.of rfl rfl (fun K' hK => ?_)
                    simp only [opAt, List.getD_cons_zero, List.getD_cons_succ, Afr, fr, dstOf, if_true, List.getElem?_toArray, List.getElem?_cons_zero, List.getElem?_cons_succ, Option.bind_some, Act.put, List.setIfInBounds_toArray, List.set_cons_succ, List.set_cons_zero] at hK ⊢
                    go_simp
                    exact hK _ _ (RA.J.on hz (by decide) (HW.out.quiet 15 (by omega)))
                  · have hz : Lf 17 = false := by
                      cases e : Lf 17 with
                      | false => rfl
                      | true => rw [hcl 17 (by decide) e 16 (by decide) (by kernel_rfl)] at hL; cases hL
                    have HW := Lib.hid (RA.J.out hz hW)
                    clear hW
                    have v15 := HW.out.t15 (hdep 15 (by decide) (by kernel_rfl))
                    have hc := (bcell HW.out.below _ 3 HRL.out).trans (HRB.out.cell 3)
                    simp only [List.getElem?_cons_zero, List.getElem?_cons_succ] at hc
                    refine StepK.of rfl rfl (fun K' hK => ?_)
                    simp only [v15, opAt, List.getD_cons_zero, List.getD_cons_succ, Afr, fr, dstOf, if_true, List.getElem?_toArray, List.getElem?_cons_zero, List.getElem?_cons_succ, Option.bind_some, Act.put, List.setIfInBounds_toArray, List.set_cons_succ, List.set_cons_zero] at hK ⊢
                    go_simp
                    exact hK _ _ (RA.J.on hz (by decide) (HW.out.quiet 16 (by omega)))
                  · have hz : Lf 17 = false := hL
                    have HW := Lib.hid (RA.J.out hz hW)
                    clear hW
                    have v0 := HW.out.t0 (hdep 0 (by decide) (by kernel_rfl))
                    have v16 := HW.out.t16 (hdep 16 (by decide) (by kernel_rfl))
                    have h3 := hdep 3 (by decide) (by kernel_rfl)
                    have h7 := hdep 7 (by decide) (by kernel_rfl)
                    have h10 := hdep 10 (by decide) (by kernel_rfl)
                    have h14 := hdep 14 (by decide) (by kernel_rfl)
                    have hqa := HW.out.ra h3
                    have hqb := HW.out.rb h10
                    simp only [h7, h14, if_true] at hqa hqb
                    have hst := HST.out.on HW.out.below
                    obtain ⟨G9, hG9, hO9⟩ := hst.st.sup
                    refine StepK.call rfl ?_ (fun K' hK => ?_)
                    · refine ⟨112, #[vals 7, vals 14, .int .i64 (r.bound)] ++ #[.pointer (some ⟨ob, 0, none⟩)], wx, ?_⟩
                      simp only [v0, v16, opAt, List.getD_cons_zero, List.getD_cons_succ, Afr, fr, dstOf, if_true, List.getElem?_toArray, List.getElem?_cons_zero, List.getElem?_cons_succ, Option.bind_some, Act.put, List.setIfInBounds_toArray, List.set_cons_succ, List.set_cons_zero]
                      go_simp
                    · simp only [v0, v16, opAt, List.getD_cons_zero, List.getD_cons_succ, Afr, fr, dstOf, if_true, List.getElem?_toArray, List.getElem?_cons_zero, List.getElem?_cons_succ, Option.bind_some, Act.put, List.setIfInBounds_toArray, List.set_cons_succ, List.set_cons_zero] at hK ⊢
                      go_simp
                      refine (cput_any _ _ (r.body ++ [-bI]) (r.w ++ [r.bound]) (r.bound) _ _ (hqa.ints (by simp; omega)) (hqb.ints (by simp; omega)) HBD.out hO9 hG9.inB hBO (by first | exact hlst | (simp; omega))).mono ?_
                      rintro e w9 ⟨rfl, ho9, hc9⟩
                      exact hK _ _ (RA.J.end (hst.put hG9 ho9 hc9))
                case fin =>
                  intro vals Lf W3 hall hW
                  have hf := RA.J.fin (hall 17 (by decide)) hW
                  have HF := Lib.hid hf
                  clear hf hW hall HST HRB HRL HIB HIW
                  simp only [Afr, List.length_cons, List.length_nil, Nat.reduceAdd, fr, dstOf, if_true, List.getElem?_toArray, List.getElem?_cons_zero, List.getElem?_cons_succ, Option.bind_some, Act.put, List.setIfInBounds_toArray, List.set_cons_succ, List.set_cons_zero]
                  have HST := HF
                  clear HF
                  have HRB := Lib.hid HST.out.rule
                  have HRL := Lib.hid HST.out.rule.lt
                  have HIB := Lib.hid (HSL.out.body.below HST.out.st.below)
                  have HIW := Lib.hid (HSL.out.wts.below HST.out.st.below)
                  go_upto_region 19 with fail
                  refine wp_region_invK (RB.J W3 (.func (.func 112) #[] #[.pointer (some ⟨ob, 0, none⟩)]) rb (.slice x4 r.body.length y4) (.slice x5 r.w.length y5) (negL r.body) r.w bI r.bound (restI r) bI (max (restI r) 0) (CpR w p vn vs (.slice (some ⟨bR, oR, none⟩) p.rules.length c1) vm ob rb r x1 x4 x5 y1 y4 y5 (lst ++ [(normP (r.body ++ [-bI]) (r.w ++ [r.bound]) r.bound).1] ++ [(normP (negL r.body ++ [bI]) (r.w ++ [max (restI r) 0]) (restI r)).1]) F)) (by kernel_rfl) (by kernel_rfl) RB.start0 ?step ?fin
                  case step =>
                    intro i hi18 vals Lf wx hL hdep hcl hW
                    have h18 : i < 16 := hi18
                    rcases (by omega : i = 0 ∨ i = 1 ∨ i = 2 ∨ i = 3 ∨ i = 4 ∨ i = 5 ∨ i = 6 ∨ i = 7 ∨ i = 8 ∨ i = 9 ∨ i = 10 ∨ i = 11 ∨ i = 12 ∨ i = 13 ∨ i = 14 ∨ i = 15) with rfl | rfl | rfl | rfl | rfl | rfl | rfl | rfl | rfl | rfl | rfl | rfl | rfl | rfl | rfl | rfl
                    · have hz : Lf 15 = false := by
                        cases e : Lf 15 with
                        | false => rfl
                        | true => rw [hcl 15 (by decide) e 0 (by decide) (by kernel_rfl)] at hL; cases hL
                      have HW := Lib.hid (RB.J.out hz hW)
                      clear hW
                      refine StepK.of rfl rfl (fun K' hK => ?_)
                      simp only [opAt, List.getD_cons_zero, Afr, fr, Act.put, List.setIfInBounds_toArray, List.set_cons_succ, List.set_cons_zero] at hK ⊢
                      go_simp
                      exact hK _ _ (RB.J.on hz (by decide) (HW.out.quiet 0 (by omega)))
                    · have hz : Lf 15 = false := by
                        cases e : Lf 15 with
                        | false => rfl
                        | true => rw [hcl 15 (by decide) e 1 (by decide) (by kernel_rfl)] at hL; cases hL
                      have HW := Lib.hid (RB.J.out hz hW)
                      clear hW
                      refine StepK.of rfl rfl (fun K' hK => ?_)
                      simp only [opAt, List.getD_cons_zero, List.getD_cons_succ, Afr, fr, dstOf, if_true, List.getElem?_toArray, List.getElem?_cons_zero, Option.bind_some, Act.put, List.setIfInBounds_toArray, List.set_cons_succ, List.set_cons_zero] at hK ⊢
                      go_simp
                      exact hK _ _ (RB.J.on hz (by decide) (HW.out.quiet 1 (by omega)))
                    · have hz : Lf 15 = false := by
                        cases e : Lf 15 with
                        | false => rfl
                        | true => rw [hcl 15 (by decide) e 2 (by decide) (by kernel_rfl)] at hL; cases hL
                      have HW := Lib.hid (RB.J.out hz hW)
                      clear hW
                      have v1 := HW.out.t1 (hdep 1 (by decide) (by kernel_rfl))
                      have hc := (bcell HW.out.below _ 4 HRL.out).trans (HRB.out.cell 4)
                      simp only [List.getElem?_cons_zero, List.getElem?_cons_succ] at hc
                      refine StepK.of rfl rfl (fun K' hK => ?_)
                      simp only [v1, opAt, List.getD_cons_zero, List.getD_cons_succ, Afr, fr, dstOf, if_true, List.getElem?_toArray, List.getElem?_cons_zero, List.getElem?_cons_succ, Option.bind_some, Act.put, List.setIfInBounds_toArray, List.set_cons_succ, List.set_cons_zero] at hK ⊢
                      go_simp
                      exact hK _ _ (RB.J.on hz (by decide) (HW.out.quiet 2 (by omega)))
                    · have hz : Lf 15 = false := by
                        cases e : Lf 15 with
                        | false => rfl
                        | true => rw [hcl 15 (by decide) e 3 (by decide) (by kernel_rfl)] at hL; cases hL
                      have HW := Lib.hid (RB.J.out hz hW)
                      clear hW
                      have v2 := HW.out.t2 (hdep 2 (by decide) (by kernel_rfl))
                      have h6 : Lf 6 = false := (by
                        cases e : Lf 6 with
                        | false => rfl
                        | true => rw [hcl 6 (by decide) e 3 (by decide) (by kernel_rfl)] at hL; cases hL)
                      have h9 : Lf 9 = false := (by
                        cases e : Lf 9 with
                        | false => rfl
                        | true => rw [hcl 9 (by decide) e 3 (by decide) (by kernel_rfl)] at hL; cases hL)
                      have h13 : Lf 13 = false := (by
                        cases e : Lf 13 with
                        | false => rfl
                        | true => rw [hcl 13 (by decide) e 3 (by decide) (by kernel_rfl)] at hL; cases hL)
                      refine StepK.call rfl ⟨_, _, _, runNeg _ _⟩ (fun K' hK => ?_)
                      simp only [v2, opAt, List.getD_cons_zero, List.getD_cons_succ, Afr, fr, dstOf, if_true, List.getElem?_toArray, List.getElem?_cons_zero, List.getElem?_cons_succ, Option.bind_some, Act.put, List.setIfInBounds_toArray, List.set_cons_succ, List.set_cons_zero] at hK ⊢
                      go_simp
                      refine (negated_any _ r.body _ (HIB.out.below HW.out.below) HNR.out).mono ?_
                      rintro e w9 ⟨v9, rfl, hq9, hb9⟩
                      exact hK _ _ (RB.J.on hz (by decide) (HW.out.callA hL h6 h9 h13 hb9 hq9))
                    · have hz : Lf 15 = false := by
                        cases e : Lf 15 with
                        | false => rfl
                        | true => rw [hcl 15 (by decide) e 4 (by decide) (by kernel_rfl)] at hL; cases hL
                      have HW := Lib.hid (RB.J.out hz hW)
                      clear hW
                      refine StepK.of rfl rfl (fun K' hK => ?_)
                      simp only [opAt, List.getD_cons_zero, List.getD_cons_succ, Afr, fr, dstOf, if_true, List.getElem?_toArray, List.getElem?_cons_zero, List.getElem?_cons_succ, Option.bind_some, Act.put, List.setIfInBounds_toArray, List.set_cons_succ, List.set_cons_zero] at hK ⊢
                      go_simp
                      exact hK _ _ (RB.J.on hz (by decide) (HW.out.quiet 4 (by omega)))
                    · have hz : Lf 15 = false := by
                        cases e : Lf 15 with
                        | false => rfl
                        | true => rw [hcl 15 (by decide) e 5 (by decide) (by kernel_rfl)] at hL; cases hL
                      have HW := Lib.hid (RB.J.out hz hW)
                      clear hW
                      have v4 := HW.out.t4 (hdep 4 (by decide) (by kernel_rfl))
                      have ha : Lf 6 = false := (by
                        cases e : Lf 6 with
                        | false => rfl
                        | true => rw [hcl 6 (by decide) e 5 (by decide) (by kernel_rfl)] at hL; cases hL)
                      refine StepK.of rfl rfl (fun K' hK => ?_)
                      simp only [v4, opAt, List.getD_cons_zero, List.getD_cons_succ, Afr, fr, dstOf, if_true, List.getElem?_toArray, List.getElem?_cons_zero, List.getElem?_cons_succ, Option.bind_some, Act.put, List.setIfInBounds_toArray, List.set_cons_succ, List.set_cons_zero] at hK ⊢
                      go_simp
                      exact hK _ _ (RB.J.on hz (by decide) (HW.out.buildA ha))
                    · have hz : Lf 15 = false := by
                        cases e : Lf 15 with
                        | false => rfl
                        | true => rw [hcl 15 (by decide) e 6 (by decide) (by kernel_rfl)] at hL; cases hL
                      have HW := Lib.hid (RB.J.out hz hW)
                      clear hW
                      have h3 := hdep 3 (by decide) (by kernel_rfl)
                      have h5 := hdep 5 (by decide) (by kernel_rfl)
                      have h9 : Lf 9 = false := (by
                        cases e : Lf 9 with
                        | false => rfl
                        | true => rw [hcl 9 (by decide) e 6 (by decide) (by kernel_rfl)] at hL; cases hL)
                      have h13 : Lf 13 = false := (by
                        cases e : Lf 13 with
                        | false => rfl
                        | true => rw [hcl 13 (by decide) e 6 (by decide) (by kernel_rfl)] at hL; cases hL)
                      obtain ⟨g8, v5, hb8⟩ := HW.out.sa h5 hL
                      have hq := HW.out.ra h3
                      simp only [hL, Bool.false_eq_true, if_false] at hq
                      have hsz := HW.out.below.size
                      refine StepK.of rfl rfl (fun K' hK => ?_)
                      simp only [v5, opAt, List.getD_cons_zero, List.getD_cons_succ, Afr, fr, dstOf, if_true, List.getElem?_toArray, List.getElem?_cons_zero, List.getElem?_cons_succ, Option.bind_some, Act.put, List.setIfInBounds_toArray, List.set_cons_succ, List.set_cons_zero] at hK ⊢
                      refine wp_appendQ (.tmp 75) (.tmp 77) 23 Tryz.underlying23 rfl W3.heap.size _ (negL r.body) (bI) rfl hq g8 1 rfl hb8 HPB.out (by first | omega | (rw [negL_len]; omega)) hsz ?_
                      intro v9 w9 hq9 hg9 ho9
                      exact hK _ _ (RB.J.on hz (by decide) (HW.out.appA h3 hL h9 h13 hq9 hg9 ho9))
                    · have hz : Lf 15 = false := by
                        cases e : Lf 15 with
                        | false => rfl
                        | true => rw [hcl 15 (by decide) e 7 (by decide) (by kernel_rfl)] at hL; cases hL
                      have HW := Lib.hid (RB.J.out hz hW)
                      clear hW
                      refine StepK.of rfl rfl (fun K' hK => ?_)
                      simp only [opAt, List.getD_cons_zero, List.getD_cons_succ, Afr, fr, dstOf, if_true, List.getElem?_toArray, List.getElem?_cons_zero, List.getElem?_cons_succ, Option.bind_some, Act.put, List.setIfInBounds_toArray, List.set_cons_succ, List.set_cons_zero] at hK ⊢
                      go_simp
                      exact hK _ _ (RB.J.on hz (by decide) (HW.out.quiet 7 (by omega)))
                    · have hz : Lf 15 = false := by
                        cases e : Lf 15 with
                        | false => rfl
                        | true => rw [hcl 15 (by decide) e 8 (by decide) (by kernel_rfl)] at hL; cases hL
                      have HW := Lib.hid (RB.J.out hz hW)
                      clear hW
                      have v7 := HW.out.t7 (hdep 7 (by decide) (by kernel_rfl))
                      have hc := (bcell HW.out.below _ 5 HRL.out).trans (HRB.out.cell 5)
                      simp only [List.getElem?_cons_zero, List.getElem?_cons_succ] at hc
                      refine StepK.of rfl rfl (fun K' hK => ?_)
                      simp only [v7, opAt, List.getD_cons_zero, List.getD_cons_succ, Afr, fr, dstOf, if_true, List.getElem?_toArray, List.getElem?_cons_zero, List.getElem?_cons_succ, Option.bind_some, Act.put, List.setIfInBounds_toArray, List.set_cons_succ, List.set_cons_zero] at hK ⊢
                      go_simp
                      exact hK _ _ (RB.J.on hz (by decide) (HW.out.quiet 8 (by omega)))
                    · have hz : Lf 15 = false := by
                        cases e : Lf 15 with
                        | false => rfl
                        | true => rw [hcl 15 (by decide) e 9 (by decide) (by kernel_rfl)] at hL; cases hL
                      have HW := Lib.hid (RB.J.out hz hW)
                      clear hW
                      have v8 := HW.out.t8 (hdep 8 (by decide) (by kernel_rfl))
                      have h3 := hdep 3 (by decide) (by kernel_rfl)
                      have h6 := hdep 6 (by decide) (by kernel_rfl)
                      have h13 : Lf 13 = false := (by
                        cases e : Lf 13 with
                        | false => rfl
                        | true => rw [hcl 13 (by decide) e 9 (by decide) (by kernel_rfl)] at hL; cases hL)
                      refine StepK.call rfl ⟨_, _, _, runClone _ _⟩ (fun K' hK => ?_)
                      simp only [v8, opAt, List.getD_cons_zero, List.getD_cons_succ, Afr, fr, dstOf, if_true, List.getElem?_toArray, List.getElem?_cons_zero, List.getElem?_cons_succ, Option.bind_some, Act.put, List.setIfInBounds_toArray, List.set_cons_succ, List.set_cons_zero] at hK ⊢
                      go_simp
                      refine (cloneQ_any _ r.w _ (HIW.out.below HW.out.below)).mono ?_
                      rintro e w9 ⟨v9, rfl, hq9, hb9⟩
                      exact hK _ _ (RB.J.on hz (by decide) (HW.out.callB h3 h6 hL h13 hb9 hq9))
                    · have hz : Lf 15 = false := by
                        cases e : Lf 15 with
                        | false => rfl
                        | true => rw [hcl 15 (by decide) e 10 (by decide) (by kernel_rfl)] at hL; cases hL
                      have HW := Lib.hid (RB.J.out hz hW)
                      clear hW
                      refine StepK.of rfl rfl (fun K' hK => ?_)
                      simp only [opAt, List.getD_cons_zero, List.getD_cons_succ, Afr, fr, dstOf, if_true, List.getElem?_toArray, List.getElem?_cons_zero, List.getElem?_cons_succ, Option.bind_some, Act.put, List.setIfInBounds_toArray, List.set_cons_succ, List.set_cons_zero] at hK ⊢
                      go_simp
                      exact hK _ _ (RB.J.on hz (by decide) (HW.out.quiet 10 (by omega)))
                    · have hz : Lf 15 = false := by
                        cases e : Lf 15 with
                        | false => rfl
                        | true => rw [hcl 15 (by decide) e 11 (by decide) (by kernel_rfl)] at hL; cases hL
                      have HW := Lib.hid (RB.J.out hz hW)
                      clear hW
                      have v10 := HW.out.t10 (hdep 10 (by decide) (by kernel_rfl))
                      refine StepK.of rfl rfl (fun K' hK => ?_)
                      simp only [v10, opAt, List.getD_cons_zero, List.getD_cons_succ, Afr, fr, dstOf, if_true, List.getElem?_toArray, List.getElem?_cons_zero, List.getElem?_cons_succ, Option.bind_some, Act.put, List.setIfInBounds_toArray, List.set_cons_succ, List.set_cons_zero] at hK ⊢
                      go_simp
                      exact hK _ _ (RB.J.on hz (by decide) (HW.out.quiet 11 (by omega)))
                    · have hz : Lf 15 = false := by
                        cases e : Lf 15 with
                        | false => rfl
                        | true => rw [hcl 15 (by decide) e 12 (by decide) (by kernel_rfl)] at hL; cases hL
                      have HW := Lib.hid (RB.J.out hz hW)
                      clear hW
                      have v11 := HW.out.t11 (hdep 11 (by decide) (by kernel_rfl))
                      have ha : Lf 13 = false := (by
                        cases e : Lf 13 with
                        | false => rfl
                        | true => rw [hcl 13 (by decide) e 12 (by decide) (by kernel_rfl)] at hL; cases hL)
                      refine StepK.of rfl rfl (fun K' hK => ?_)
                      simp only [v11, opAt, List.getD_cons_zero, List.getD_cons_succ, Afr, fr, dstOf, if_true, List.getElem?_toArray, List.getElem?_cons_zero, List.getElem?_cons_succ, Option.bind_some, Act.put, List.setIfInBounds_toArray, List.set_cons_succ, List.set_cons_zero] at hK ⊢
                      go_simp
                      exact hK _ _ (RB.J.on hz (by decide) (HW.out.buildB ha))
                    · have hz : Lf 15 = false := by
                        cases e : Lf 15 with
                        | false => rfl
                        | true => rw [hcl 15 (by decide) e 13 (by decide) (by kernel_rfl)] at hL; cases hL
                      have HW := Lib.hid (RB.J.out hz hW)
                      clear hW
                      have h9 := hdep 9 (by decide) (by kernel_rfl)
                      have h12 := hdep 12 (by decide) (by kernel_rfl)
                      have h3 := hdep 3 (by decide) (by kernel_rfl)
                      have h6 := hdep 6 (by decide) (by kernel_rfl)
                      obtain ⟨g8, v12, hb8, -⟩ := HW.out.sb h12 hL
                      have hq := HW.out.rb h9
                      simp only [hL, Bool.false_eq_true, if_false] at hq
                      have hsz := HW.out.below.size
                      refine StepK.of rfl rfl (fun K' hK => ?_)
                      simp only [v12, opAt, List.getD_cons_zero, List.getD_cons_succ, Afr, fr, dstOf, if_true, List.getElem?_toArray, List.getElem?_cons_zero, List.getElem?_cons_succ, Option.bind_some, Act.put, List.setIfInBounds_toArray, List.set_cons_succ, List.set_cons_zero] at hK ⊢
                      refine wp_appendQ (.tmp 81) (.tmp 84) 23 Tryz.underlying23 rfl W3.heap.size _ (r.w) (max (restI r) 0) rfl hq g8 1 rfl hb8 HMX.out (by omega) hsz ?_
                      intro v9 w9 hq9 hg9 ho9
                      exact hK _ _ (RB.J.on hz (by decide) (HW.out.appB h3 h6 h9 hL hq9 hg9 ho9))
                    · have hz : Lf 15 = false := by
                        cases e : Lf 15 with
                        | false => rfl
                        | true => rw [hcl 15 (by decide) e 14 (by decide) (by kernel_rfl)] at hL; cases hL
                      have HW := Lib.hid (RB.J.out hz hW)
                      clear hW
                      refine StepK.of rfl rfl (fun K' hK => ?_)
                      simp only [opAt, List.getD_cons_zero, List.getD_cons_succ, Afr, fr, dstOf, if_true, List.getElem?_toArray, List.getElem?_cons_zero, List.getElem?_cons_succ, Option.bind_some, Act.put, List.setIfInBounds_toArray, List.set_cons_succ, List.set_cons_zero] at hK ⊢
                      go_simp
                      exact hK _ _ (RB.J.on hz (by decide) (HW.out.quiet 14 (by omega)))
                    · have hz : Lf 15 = false := hL
                      have HW := Lib.hid (RB.J.out hz hW)
                      clear hW
                      have v0 := HW.out.t0 (hdep 0 (by decide) (by kernel_rfl))
                      have v14 := HW.out.t14 (hdep 14 (by decide) (by kernel_rfl))
                      have h3 := hdep 3 (by decide) (by kernel_rfl)
                      have h6 := hdep 6 (by decide) (by kernel_rfl)
                      have h9 := hdep 9 (by decide) (by kernel_rfl)
                      have h13 := hdep 13 (by decide) (by kernel_rfl)
                      have hqa := HW.out.ra h3
                      have hqb := HW.out.rb h9
                      simp only [h6, h13, if_true] at hqa hqb
                      have hst := HST.out.on HW.out.below
                      obtain ⟨G9, hG9, hO9⟩ := hst.st.sup
                      refine StepK.call rfl ?_ (fun K' hK => ?_)
                      · refine ⟨112, #[vals 6, vals 13, .int .i64 (restI r)] ++ #[.pointer (some ⟨ob, 0, none⟩)], wx, ?_⟩
                        simp only [v0, v14, opAt, List.getD_cons_zero, List.getD_cons_succ, Afr, fr, dstOf, if_true, List.getElem?_toArray, List.getElem?_cons_zero, List.getElem?_cons_succ, Option.bind_some, Act.put, List.setIfInBounds_toArray, List.set_cons_succ, List.set_cons_zero]
                        go_simp
                      · simp only [v0, v14, opAt, List.getD_cons_zero, List.getD_cons_succ, Afr, fr, dstOf, if_true, List.getElem?_toArray, List.getElem?_cons_zero, List.getElem?_cons_succ, Option.bind_some, Act.put, List.setIfInBounds_toArray, List.set_cons_succ, List.set_cons_zero] at hK ⊢
                        go_simp
                        refine (cput_any _ _ (negL r.body ++ [bI]) (r.w ++ [max (restI r) 0]) (restI r) _ _ (hqa.ints (by simp [negL_len]; omega)) (hqb.ints (by simp; omega)) HRI.out hO9 hG9.inB hBO (by first | exact hlst | (simp; omega))).mono ?_
                        rintro e w9 ⟨rfl, ho9, hc9⟩
                        exact hK _ _ (RB.J.end (hst.put hG9 ho9 hc9))
                  case fin =>
                    intro vals Lf W4 hall hW
                    have hf := RB.J.fin (hall 15 (by decide)) hW
                    have HF := Lib.hid hf
                    clear hf hW hall HST HRB HRL HIB HIW
                    simp only [Afr, List.length_cons, List.length_nil, Nat.reduceAdd, fr, dstOf, if_true, List.getElem?_toArray, List.getElem?_cons_zero, List.getElem?_cons_succ, Option.bind_some, Act.put, List.setIfInBounds_toArray, List.set_cons_succ, List.set_cons_zero]
                    have HST := HF
                    clear HF
                    go_wp2_with fail
                    go_meet
                    case rel =>
                      have h := HST.out
                      rw [List.append_assoc] at h
                      rw [HCH.out]
                      exact h
          | false =>
            have HCH : Hid (compH r bI = (r.body.map fun l => (clauseP [-bI, l]).1) ++ [(clauseP (negL r.body ++ [bI])).1]) := Lib.hid (by unfold compH; rw [if_neg (by rw [hs]; exact Bool.false_ne_true)])
            have hnb : InI (-bI) := by unfold InI; omega
            have hpb : InI bI := by unfold InI; omega
            have HNB := Lib.hid hnb
            have HPB := Lib.hid hpb
            have hwn : IntKind.i64.wrap (-bI) = -bI := by rw [IntKind.wrap_i64]; omega
            have HNR : Hid (∀ x ∈ r.body, -1000000 ≤ x ∧ x ≤ 1000000) := Lib.hid (fun x hx => by have := HRV.out.body x hx; omega)
            have HBC : Hid (∀ j, j < r.body.length → _) := Lib.hid (fun j (hj : j < r.body.length) => HSL.out.body.at hj)
            clear hnb hpb
            go_wp2_with fail
            go_loopw [91] (fun i wx => ∃ j : Nat, j ≤ r.body.length ∧ i = .int .i64 j ∧ CpR w p vn vs (.slice (some ⟨bR, oR, none⟩) p.rules.length c1) vm ob rb r x1 x4 x5 y1 y4 y5 (lst ++ (r.body.take j).map fun l => (clauseP [-bI, l]).1) F wx) (fun i _ => r.body.length - (intOf i).toNat)
            case atStart => exact ⟨0, Nat.zero_le _, rfl, by simpa using HST.out⟩
            case round =>
              obtain ⟨j, hj, rfl, hsr⟩ := hrel
              have HSR := Lib.hid hsr
              have hlj : (lst ++ (r.body.take j).map fun l => (clauseP [-bI, l]).1).length ≤ 1000000000 := by simp; omega
              have krr := hsr.rule.cell
              have hbw := hsr.st.below
              by_cases hjl : j < r.body.length
              · obtain ⟨b4, o4, e4, hb4, hc4⟩ := HBC.out j hjl
                have kb := (bcell hbw _ _ hb4).trans hc4
                have hx := HRV.out.body _ (ix_mem hjl)
                have HN := Lib.hid (take_map (fun l => (clauseP [-bI, l]).1) hjl)
                have hal2 := bal (Below.refl wr.heap.size wr) (.cells #[.int .i64 (-bI), .int .i64 (ix r.body j)] 3)
                have HI2 : Hid (Ints (wr.alloc (.cells #[.int .i64 (-bI), .int .i64 (ix r.body j)] 3)) (.slice (some ⟨wr.heap.size, 0, none⟩) 2 2) [-bI, ix r.body j]) :=
                  Lib.hid (Blk.ints (l := [-bI, ix r.body j]) (Blk.new wr [.int .i64 (-bI), .int .i64 (ix r.body j)] _) (fitI (by simp [InI]; omega)) (by simp))
                have hs2 := hsr.on hal2
                obtain ⟨G2, hG2, hO2⟩ := hs2.sup'
                have HG2 := Lib.hid hG2
                have HO2 := Lib.hid hO2
                have HS2 := Lib.hid hs2
                clear hsr hbw hc4 hal2 hs2 hG2 hO2
                subst e4
                go_wp2_with (go_at_call 113; (with_reducible refine (cclause_any _ [-bI, ix r.body j] _ _ HI2.out HO2.out HG2.out.inB hBO hlj).mono ?_); rintro e w5 ⟨rfl, ho5, hc5⟩; have HS5 := Lib.hid (HS2.out.put HG2.out ho5 hc5); clear ho5 hc5)
                first
                  | (go_roundw
                     case rel => (exact ⟨j + 1, hjl, by go_num, by rw [HN.out, ← List.append_assoc]; exact HS5.out⟩)
                     case measure => (simp [intOf]; omega))
                  | (refine ⟨?_, ?_⟩
                     · (exact ⟨j + 1, hjl, by go_num, by rw [HN.out, ← List.append_assoc]; exact HS5.out⟩)
                     · (simp [intOf]; omega))
              · obtain rfl : j = r.body.length := by omega
                have HIB2 := Lib.hid (HSL.out.body.below hsr.st.below)
                have hnl : (negL r.body).length ≤ 8000 := by rw [negL_len]; exact hlen.1
                clear hsr hbw
                go_wp2_with (first
                  | (go_at_call 114; (with_reducible refine (negated_any _ r.body wr HIB2.out HNR.out).mono ?_); rintro e w2 ⟨v2, rfl, hq2, hb2⟩; obtain ⟨a2, c2, rfl⟩ := hq2.slen; have HQ2 := Lib.hid (hq2.below (bal (Below.refl w2.heap.size w2) (.cells #[.int .i64 (bI)] 3))); have HQ2' := Lib.hid hq2; have HB2 := Lib.hid hb2; have hz2 := hb2.size; clear hq2 hb2)
                  | (at_builtin; go_must (refine wpList_appendQ rfl _ _ 23 Tryz.underlying23 rfl (wr).heap.size _ (negL r.body) (bI) rfl HQ2.out w2.heap.size 1 rfl (Blk.new w2 [.int .i64 (bI)] _) HPB.out (by omega) (by simp; omega) ?_); intro v3 w3 hq3 hg3 _; have hb3 := below_push HB2.out HQ2'.out (Nat.le_refl _) hg3; have hi3 := hq3.ints (by simp; omega); obtain ⟨a3, c3, e3⟩ := hq3.slen; rw [show ((negL r.body) ++ [bI]).length = (negL r.body).length + 1 from by simp] at e3; subst e3; have hs3 := (HSR.out).on hb3; obtain ⟨G3, hG3, hO3⟩ := hs3.sup'; have HI3 := Lib.hid hi3; have HG3 := Lib.hid hG3; have HO3 := Lib.hid hO3; have HS3 := Lib.hid hs3; clear hq3 hg3 hb3 hi3 hs3 hG3 hO3)
                  | (go_at_call 113; (with_reducible refine (cclause_any _ ((negL r.body) ++ [bI]) _ w3 HI3.out HO3.out HG3.out.inB hBO hlj).mono ?_); rintro e w4 ⟨rfl, ho4, hc4⟩; have HS4 := Lib.hid (HS3.out.put HG3.out ho4 hc4); clear ho4 hc4))
                go_meet
                case rel =>
                  have h := HS4.out
                  rw [List.append_assoc, List.take_length] at h
                  rw [HCH.out]
                  exact h
        case rest =>
          have HS1 := Lib.hid hcut
          have krc := hcut.rule.cell
          have HIH := Lib.hid (HSL.out.head.below hcut.st.below)
          have hl1 : (lst ++ compH r bI).length ≤ 1000000000 := by have := compH_len r bI; simp; omega
          have HPB : Hid (InI bI) := Lib.hid (by unfold InI; omega)
          have HNB : Hid (InI (-bI)) := Lib.hid (by unfold InI; omega)
          clear hcut HST
          generalize hwc : wc = we at *
          go_upto_if 112 with fail
          go_cut [] (fun wx => CpR w p vn vs (.slice (some ⟨bR, oR, none⟩) p.rules.length c1) vm ob rb r x1 x4 x5 y1 y4 y5 (lst ++ compR r bI) F wx)
          case first =>
            cases hc : r.choice with
            | true =>
              have HCR2 : Hid (compR r bI = compH r bI) := Lib.hid (by unfold compR; rw [hc]; simp)
              go_wp2_with fail
              go_meet
              case rel => rw [HCR2.out]; exact HS1.out
            | false =>
              have HCR2 : Hid (compR r bI = compH r bI ++ [(clauseP (r.head ++ [-bI])).1]) := Lib.hid (by unfold compR; rw [hc]; simp)
              have hwn : IntKind.i64.wrap (-bI) = -bI := by rw [IntKind.wrap_i64]; omega
              go_wp2_with (first
                | (go_at_call 88; (with_reducible refine (cloneQ_any _ r.head we HIH.out).mono ?_); rintro e w2 ⟨v2, rfl, hq2, hb2⟩; obtain ⟨a2, c2, rfl⟩ := hq2.slen; have HQ2 := Lib.hid (hq2.below (bal (Below.refl w2.heap.size w2) (.cells #[.int .i64 (-bI)] 3))); have HQ2' := Lib.hid hq2; have HB2 := Lib.hid hb2; have hz2 := hb2.size; clear hq2 hb2)
                | (at_builtin; go_must (refine wpList_appendQ rfl _ _ 23 Tryz.underlying23 rfl (we).heap.size _ (r.head) (-bI) rfl HQ2.out w2.heap.size 1 rfl (Blk.new w2 [.int .i64 (-bI)] _) HNB.out (by omega) (by simp; omega) ?_); intro v3 w3 hq3 hg3 _; have hb3 := below_push HB2.out HQ2'.out (Nat.le_refl _) hg3; have hi3 := hq3.ints (by simp; omega); obtain ⟨a3, c3, e3⟩ := hq3.slen; rw [show ((r.head) ++ [-bI]).length = (r.head).length + 1 from by simp] at e3; subst e3; have hs3 := (HS1.out).on hb3; obtain ⟨G3, hG3, hO3⟩ := hs3.sup'; have HI3 := Lib.hid hi3; have HG3 := Lib.hid hG3; have HO3 := Lib.hid hO3; have HS3 := Lib.hid hs3; clear hq3 hg3 hb3 hi3 hs3 hG3 hO3)
                | (go_at_call 113; (with_reducible refine (cclause_any _ ((r.head) ++ [-bI]) _ w3 HI3.out HO3.out HG3.out.inB hBO hl1).mono ?_); rintro e w4 ⟨rfl, ho4, hc4⟩; have HS4 := Lib.hid (HS3.out.put HG3.out ho4 hc4); clear ho4 hc4))
              go_meet
              case rel =>
                have h := HS4.out
                rw [List.append_assoc] at h
                rw [HCR2.out]
                exact h
          case rest =>
            have HS2 := Lib.hid hcut
            have kr2 := hcut.rule.cell
            clear hcut HS1 HIH krc
            have HHC : Hid (∀ j, j < r.head.length → _) := Lib.hid (fun j (hj : j < r.head.length) => HSL.out.head.at hj)
            go_wp2_with fail
            clear kr2
            generalize hwd : wc = wd at *
            go_loopw [125] (fun i wx => ∃ j : Nat, j ≤ r.head.length ∧ i = .int .i64 j ∧ CpR w p vn vs (.slice (some ⟨bR, oR, none⟩) p.rules.length c1) vm ob rb r x1 x4 x5 y1 y4 y5 (lst ++ compR r bI) (supIn p k j) wx) (fun i _ => r.head.length - (intOf i).toNat)
            case atStart => exact ⟨0, Nat.zero_le _, rfl, by rw [supIn_zero, HFE.out]; exact HS2.out⟩
            case round =>
              obtain ⟨j, hj, rfl, hsr⟩ := hrel
              have HSR := Lib.hid hsr
              have hbw := hsr.st.below
              by_cases hjl : j < r.head.length
              · obtain ⟨b4, o4, e4, hb4, hc4⟩ := HHC.out j hjl
                have kb := (bcell hbw _ _ hb4).trans hc4
                have hx := HRV.out.head _ (ix_mem hjl)
                have HN := Lib.hid (supIn_next HV.out hlt (by rw [HR.out]; exact hjl))
                obtain ⟨G, hG, hO⟩ := hsr.sup'
                obtain ⟨ag, ng, cg, eg, hlk⟩ := hG.look (ix r.head j)
                have hsl2 : (supIn p k j (ix r.head j)).length ≤ 40001 := by
                  have := supAt_len p (ix r.head j) k
                  unfold supIn
                  rw [List.length_append]
                  split <;> simp <;> omega
                have HQ2 : Hid (QRow w.heap.size (wr.alloc (.cells #[.int .i64 bI] 3)) (.slice ag ng cg) (supIn p k j (ix r.head j))) := Lib.hid (by rw [← eg]; exact (hG.row _).below (bal (Below.refl _ _) _))
                have hzw := hbw.size
                have HG := Lib.hid hG
                have HO := Lib.hid hO
                have HEG := Lib.hid eg
                clear hsr hbw hc4 hG hO eg
                subst e4
                go_wp2_with (first
                  | (at_builtin; go_must (refine wpList_appendQ rfl _ _ 23 Tryz.underlying23 rfl w.heap.size _ (supIn p k j (ix r.head j)) bI rfl HQ2.out wr.heap.size 1 rfl (Blk.new wr [.int .i64 bI] _) HPB.out (by omega) (by simp; omega) ?_); intro v3 w3 hq3 hg3 ho3; rw [← HEG.out] at hg3 ho3; have HM3 := Lib.hid ((HG.out.below (bal (Below.refl wr.heap.size wr) (.cells #[.int .i64 bI] 3))).map1 hg3); have HQ3 := Lib.hid hq3; have HG3 := Lib.hid hg3; have HO3 := Lib.hid ho3; clear hq3 hg3 ho3)
                  | (at_mapUpdate; go_must (refine wpList_mput _ _ (ix r.head j) v3 kvInt 159 3 23 Tryz.underlying159 Tryz.underlying3 rfl _ _ _ rfl rfl rfl rfl HM3.out ?_); intro w7 hm7 hg7 _; have HS7 := Lib.hid (HSR.out.push hBO HG.out HO.out HQ3.out HG3.out HO3.out hm7 hg7); clear hm7 hg7))
                first
                  | (go_roundw
                     case rel => (exact ⟨j + 1, hjl, by go_num, by (have h := HN.out; rw [HR.out, HBI.out] at h; rw [h]; exact HS7.out)⟩)
                     case measure => (simp [intOf]; omega))
                  | (refine ⟨?_, ?_⟩
                     · (exact ⟨j + 1, hjl, by go_num, by (have h := HN.out; rw [HR.out, HBI.out] at h; rw [h]; exact HS7.out)⟩)
                     · (simp [intOf]; omega))
              · obtain rfl : j = r.head.length := by omega
                clear hsr hbw
                go_wp2
                first
                  | (go_roundw
                     case rel => (exact ⟨k + 1, hlt, by go_num, by (have h := HSR.out.st; rw [← HLE.out, ← HR.out, ← HBI.out, supIn_all] at h; exact h)⟩)
                     case measure => (simp [intOf]; omega))
                  | (refine ⟨?_, ?_⟩
                     · (exact ⟨k + 1, hlt, by go_num, by (have h := HSR.out.st; rw [← HLE.out, ← HR.out, ← HBI.out, supIn_all] at h; exact h)⟩)
                     · (simp [intOf]; omega))
      · obtain rfl : k = p.rules.length := by omega
        have hlk := HCV.out.lenTo (Nat.le_refl _)
        have hBO : w.heap.size ≤ ob := hob
        have HCL : Hid (compTo p p.rules.length ++ atomTo p p.n.toNat = compL p) := Lib.hid (by unfold compL; rfl)
        obtain ⟨lst, hle⟩ : ∃ l, compTo p p.rules.length = l := ⟨_, rfl⟩
        have hst1 := HSK.out
        rw [hle] at hst1 hlk
        rw [hle] at HCL
        have HST1 := Lib.hid hst1
        clear hle hst1 HSK kx hbk
        go_wp2_with fail
        generalize hwd : wr = wd at *
        go_loopw [18] (fun i wx => ∃ j : Nat, (j : Int) ≤ p.n ∧ i = .int .i64 ((j : Int) + 1) ∧ CpSt w p vn vs (.slice a1 p.rules.length c1) vm ob (lst ++ atomTo p j) (fun a => supAt' p a p.rules.length) wx) (fun i _ => (p.n + 1 - intOf i).toNat)
        case atStart => exact ⟨0, hn0.1, rfl, by simpa [atomTo] using HST1.out⟩
        case round =>
          obtain ⟨j, hj, rfl, hsr⟩ := hrel
          have HSR := Lib.hid hsr
          have kx := hsr.box.cell
          have hlj : (lst ++ atomTo p j).length ≤ 1000000000 := by rw [List.length_append, atomTo_len]; omega
          by_cases hjl : (j : Int) + 1 ≤ p.n
          · obtain ⟨aI, haI⟩ : ∃ aI, (j : Int) + 1 = aI := ⟨_, rfl⟩
            have hai : 1 ≤ aI ∧ aI ≤ 4000 := by omega
            obtain ⟨G, hG, hO⟩ := hsr.sup'
            obtain ⟨ag, ng, cg, eg, hlk2⟩ := hG.look aI
            have hsl2 := supAt_len p aI p.rules.length
            have hri : Ints wr (.slice ag ng cg) (supAt' p aI p.rules.length) := by rw [← eg]; exact (hG.row aI).ints (by omega)
            have HRI := Lib.hid hri
            have HXI : Hid (InI (-aI)) := Lib.hid (by unfold InI; omega)
            have hwn : IntKind.i64.wrap (-aI) = -aI := wrap_small (by omega)
            have HAT : Hid (atomTo p (j + 1) = atomTo p j ++ [(clauseP (supAt' p aI p.rules.length ++ [-aI])).1]) := Lib.hid (by simp only [atomTo, atomC, haI])
            have HAI := Lib.hid haI
            clear hsr hG hO eg hri
            go_wp2_with (first
              | (go_at_call 88; (with_reducible refine (cloneQ_any _ (supAt' p aI p.rules.length) wr HRI.out).mono ?_); rintro e w2 ⟨v2, rfl, hq2, hb2⟩; obtain ⟨a2, c2, rfl⟩ := hq2.slen; have HQ2 := Lib.hid (hq2.below (bal (Below.refl w2.heap.size w2) (.cells #[.int .i64 (-aI)] 3))); have HQ2' := Lib.hid hq2; have HB2 := Lib.hid hb2; have hz2 := hb2.size; clear hq2 hb2)
              | (at_builtin; go_must (refine wpList_appendQ rfl _ _ 23 Tryz.underlying23 rfl (wr).heap.size _ (supAt' p aI p.rules.length) (-aI) rfl HQ2.out w2.heap.size 1 rfl (Blk.new w2 [.int .i64 (-aI)] _) HXI.out (by omega) (by simp; omega) ?_); intro v3 w3 hq3 hg3 _; have hb3 := below_push HB2.out HQ2'.out (Nat.le_refl _) hg3; have hi3 := hq3.ints (by simp; omega); obtain ⟨a3, c3, e3⟩ := hq3.slen; rw [show ((supAt' p aI p.rules.length) ++ [-aI]).length = (supAt' p aI p.rules.length).length + 1 from by simp] at e3; subst e3; have hs3 := (HSR.out).on hb3; obtain ⟨G3, hG3, hO3⟩ := hs3.sup'; have HI3 := Lib.hid hi3; have HG3 := Lib.hid hG3; have HO3 := Lib.hid hO3; have HS3 := Lib.hid hs3; clear hq3 hg3 hb3 hi3 hs3 hG3 hO3)
              | (go_at_call 113; (with_reducible refine (cclause_any _ ((supAt' p aI p.rules.length) ++ [-aI]) _ w3 HI3.out HO3.out HG3.out.inB hBO hlj).mono ?_); rintro e w4 ⟨rfl, ho4, hc4⟩; have HS4 := Lib.hid (HS3.out.put HG3.out ho4 hc4); clear ho4 hc4))
            first
              | (go_roundw
                 case rel => (exact ⟨j + 1, by (have := HAI.out; omega), by (rw [← HAI.out]; push_cast; rfl), by (have h := HS4.out; rw [List.append_assoc] at h; rw [HAT.out]; exact h)⟩)
                 case measure => (have := HAI.out; simp [intOf]; omega))
              | (refine ⟨?_, ?_⟩
                 · (exact ⟨j + 1, by (have := HAI.out; omega), by (rw [← HAI.out]; push_cast; rfl), by (have h := HS4.out; rw [List.append_assoc] at h; rw [HAT.out]; exact h)⟩)
                 · (have := HAI.out; simp [intOf]; omega))
          · obtain ⟨G, hG, v, L, hob2, hmi, hLe, -⟩ := hsr.sup'
            have hjn : j = p.n.toNat := by omega
            have hpb : PBsIs wr v (compL p) := hmi.pbs _ (by rw [hLe, hjn]; exact HCL.out) (by
              have : L.length = (lst ++ atomTo p j).length := by rw [← hLe]; simp
              omega)
            obtain ⟨av, cv, rfl, -⟩ := hpb.form
            have ko := hob2.cell 0
            have HPB := Lib.hid hmi
            have HLL : Hid (L.map (·.1) = compL p) := Lib.hid (by rw [hLe, hjn]; exact HCL.out)
            have HLN : Hid (L.length ≤ 1000000000) := Lib.hid (by
              have : L.length = (lst ++ atomTo p j).length := by rw [← hLe]; simp
              omega)
            have HBW := Lib.hid hsr.below
            clear hsr hG hob2 hmi hLe hpb hjn
            go_wp2_with fail
            refine bodyPost_ret (v := .tuple #[.slice av (compL p).length cv, .int .i64 0]) ?_ rfl ⟨_, rfl, ⟨L, HPB.out, HLL.out, HLN.out⟩, HBW.out⟩
            simp [results, Tryz.f73, go_sem]
  · have hve : (validE p != 0) = true := by simp [hv]
    rw [if_neg hv, if_neg hv]
    clear hv
    go_enter Tryz.func73, Tryz.ntmps73
    go_upto_region 1 with fail
    have kx := HBX.out.cell
    generalize w.alloc (.cells #[.int .i64 p.n, vn, vs, .slice a1 p.rules.length c1, vm] 33) = W0 at *
    go_wp2_with (go_at_call 39; (with_reducible refine (valid_any _ p _ HP.out).mono ?_); rintro e w1 ⟨rfl, hb1⟩; have HB1 := Lib.hid hb1; clear hb1)
    refine bodyPost_ret (v := .tuple #[.slice none 0 0, .int .i64 2]) ?_ rfl ⟨_, rfl, ⟨_, MineC.nil _ _, rfl, Nat.zero_le _⟩, bon HAL.out HB1.out⟩
    simp [results, Tryz.f73, go_sem]
end Go.Proofs.YteblddnoegbalaaGreat
