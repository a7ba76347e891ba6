/- My texts Rg41g, Sp41, merged. -/
import Derived.Test.YtgakoainjgjimaaGreatDoorM22
import Derived.Test.YtgakoainjgjimaaGreatDoorM05
import Derived.Test.YtgakoainjgjimaaGreatDoorM04
import Derived.Test.YtgakoainjgjimaaGreatDoorM20
import Derived.Test.YtgakoainjgjimaaGreatDoorM03
import Derived.Test.YtgakoainjgjimaaGreatDoorM00
import Derived.Test.YtgakoainjgjimaaGreatDoorProg
import Derived.WalkKit
import Derived.Lib.Hide
import Derived.Deep.QuietTactic
import Derived.BigQuiet
import Derived.WalkSpells
import Derived.Lib.SliceRun
import Derived.MapKept
import Derived.Maps.OwnSet
import Derived.Maps.OwnOps
import Derived.Test.YtgakoainjgjimaaGreatDoorM02
import Derived.Test.YtgakoainjgjimaaGreatDoorM01
import Derived.Deep.AppendLies
import Derived.Lib.Bytealg
import Derived.Deep.DeepCutAuto
import Derived.Laws.EntriesVeiled
import Derived.Test.YtgakoainjgjimaaGreatDoorM21
import Derived.Test.YtgakoainjgjimaaGreatDoorM07
import Derived.Deep.RegionWith
import Derived.Deep.OwnRows
import Derived.Test.YtgakoainjgjimaaGreatDoorM06
import Derived.RangeFuncNested
import Derived.RangeFuncBound
import Derived.RangeFuncCalls
import Derived.RangeFuncLeaves
import Derived.OwnWalkIn
import Derived.TacticsInMore
import Derived.LoopNIn
import Derived.LoopIn
import Derived.Stop.RegionWithIn
import Derived.Shelf.Abstract
import Derived.Deep.LoopGhost
import Derived.Deep.DrawnRows
import Derived.Test.YtgakoainjgjimaaGreatDoorM14
import Derived.Test.YtgakoainjgjimaaGreatDoorM13
import Derived.Test.YtgakoainjgjimaaGreatDoorM08
import Derived.Shelf.Sort.Plain
import Derived.Shelf.Slices.CompactI
import Derived.Shelf.Slices.In.SortNone
import Derived.Shelf.Strconv.Itoa3
import Derived.Shelf.Strings.BuilderK
import Derived.Shelf.Slices.SearchI
import Derived.Shelf.Slices.Empties
import Derived.Test.YtgakoainjgjimaaGreatDoorM09
import Derived.Deep.AppendSrc
import Derived.Test.YtgakoainjgjimaaGreatDoorM11
import Derived.Test.YtgakoainjgjimaaGreatDoorM18
import Derived.Test.YtgakoainjgjimaaGreatDoorM25
import Derived.Test.YtgakoainjgjimaaGreatDoorM24
import Derived.Test.YtgakoainjgjimaaGreatDoorM23
import Derived.Test.YtgakoainjgjimaaGreatDoorM12
import Derived.Sort.QuietThIn
import Derived.Maps.RangeWalk
import Derived.Lib.SlicesCompact
import Derived.Sort.OwnSortedInts
import Derived.RangeFuncBox
import Derived.Maps.OwnIn
import Derived.Lib.RowBridge
import Derived.Test.YtgakoainjgjimaaGreatDoorM10

namespace Go.Proofs.YtgakoainjgjimaaGreatDoor
open Go.RowKit
def firG (f : Nat → Bool) (g : Nat → Int) (n q : Nat) : Int := (((List.range' q (n - q)).find? f).map g).getD 0
theorem firG_end (f : Nat → Bool) (g : Nat → Int) (n : Nat) : firG f g n n = 0 := by
  unfold firG
  rw [Nat.sub_self]; rfl
theorem firG_step {f : Nat → Bool} {g : Nat → Int} {n q : Nat} (h : q < n) : firG f g n q = if f q = true then g q else firG f g n (q + 1) := by
  unfold firG
  rw [show n - q = (n - (q + 1)) + 1 by omega, List.range'_succ, List.find?_cons]
  cases f q <;> simp
theorem firG_zero {f : Nat → Bool} {g : Nat → Int} {n : Nat} (h : ∃ j, j < n ∧ f j = true) : firG f g n 0 = g (firI f n) := by
  unfold firG firI
  rw [Nat.sub_zero, ← List.range_eq_range']
  cases hf : (List.range n).find? f with
  | some j => rfl
  | none =>
    obtain ⟨j, hj, h1⟩ := h
    have := List.find?_eq_none.1 hf j (List.mem_range.2 hj)
    exact absurd h1 this
def RbL (W4 : World) (c : List Value) (f : Nat → Bool) (g : Nat → Int) (n : Nat) (i : Value) (W : World) : Prop :=
  ∃ q : Nat, q ≤ n ∧ i = .int .i64 ((q : Int) - 1) ∧ Blk W W4.heap.size (c ++ [.int .i64 (firG f g n q)]) 71 ∧ Below W4.heap.size W4 W
theorem anyR_ex {n : Nat} {f : Nat → Bool} (h : anyR n f = true) : ∃ j, j < n ∧ f j = true := by
  by_cases g : ∃ j, j < n ∧ f j = true
  · exact g
  · have : anyR n f = false := anyR_false fun j hj => by
      cases hf : f j with
      | false => rfl
      | true => exact absurd ⟨j, hj, hf⟩ g
    rw [this] at h; cases h
set_option maxHeartbeats 16000000 in
set_option maxRecDepth 100000 in
theorem rblocks41_any (v vset : Value) (p : GP) (m : List Int) (a : Int) (w : World) (h : ProgIs w v p) (hm : Ints w vset m) (hv : validE p = 0) (hmod : modelsB p m = true) :
    Calls Tryz.prog 21 #[v, vset, .int .i64 a] w fun e w' => ∃ vo, e = .returned vo ∧ MineK (w.heap.size + 1) vo (blksTo p m a p.rules.length) w' ∧ Below w.heap.size w w' := by
  obtain ⟨vn, vs, vr, vm, rfl, hps⟩ := h
  obtain ⟨am, cm, rfl, -⟩ := id hm.form
  obtain ⟨a1, c1, rfl, -, hl1, -, -⟩ := hps.rules.form
  have hrl0 := (validP hv).rules
  have hal := bal (Below.refl w.heap.size w) (.cells #[.int .i64 p.n, vn, vs, .slice a1 p.rules.length c1, vm] 27)
  have HS0 : Hid (BlSt w (.slice am m.length cm) p m (.int .i64 p.n) vn vs (.slice a1 p.rules.length c1) vm (w.alloc (.cells #[.int .i64 p.n, vn, vs, .slice a1 p.rules.length c1, vm] 27))) := Lib.hid ⟨Blk.new w [.int .i64 p.n, vn, vs, .slice a1 p.rules.length c1, vm] _, hps.rules.below hal, hm.below hal, hal⟩
  have hz0 : (w.alloc (.cells #[.int .i64 p.n, vn, vs, .slice a1 p.rules.length c1, vm] 27)).heap.size = w.heap.size + 1 := by simp
  have HZ0 := Lib.hid hz0
  have HDV : Hid (∀ j, j < p.rules.length → DvOk (ixR p.rules j)) := Lib.hid fun j hj => dvOk_valid hv hj
  have HMOD := Lib.hid hmod
  clear hps hm hal hz0 hv hmod
  go_enter Tryz.func21, Tryz.ntmps21
  go_upto_region 1 with fail
  generalize w.alloc (.cells #[.int .i64 p.n, vn, vs, .slice a1 p.rules.length c1, vm] 27) = w1 at *
  go_wp2
  go_loopw [7, 8] (fun vo i wx => BlRel p m a w1 vo i wx) (fun _ i _ => p.rules.length - (intOf i).toNat)
  case atStart => exact ⟨0, Nat.zero_le _, rfl, MineK.nil _ _, Below.refl _ _⟩
  case round =>
    obtain ⟨k, hk, rfl, hmo, hbl⟩ := hrel
    have hlb := blksTo_len p m a k
    obtain ⟨ao, co, rfl⟩ := hmo.slen
    have HMO := Lib.hid hmo
    have HBL := Lib.hid hbl
    have HSR := Lib.hid (HS0.out.on hbl)
    have hszr := hbl.size
    have kp := HSR.out.pbx.cell
    clear hmo hbl
    by_cases hlt : k < p.rules.length
    · obtain ⟨b, off, rfl, hbl2, vh, vb, vw, ⟨k0, k1, k2, k3, k4, k5⟩, hsl⟩ := HSR.out.rul.ruleAt hlt
      have HDR := Lib.hid (HDV.out k hlt)
      have hsat := allR_get HMOD.out k hlt
      obtain ⟨r, hr⟩ : ∃ r, ixR p.rules k = r := ⟨_, rfl⟩
      have hnx : blksTo p m a (k + 1) = if a ∈ r.head then blksTo p m a k ++ [blkB r m k] else blksTo p m a k := by rw [← hr]; rfl
      rw [hr] at k0 k2 k3 hsl hsat HDR
      obtain ⟨ah, ch, rfl, -, hlh, -, -⟩ := hsl.head.form
      obtain ⟨ab, cb, rfl, -, hlb2, -, -⟩ := hsl.body.form
      obtain ⟨aw, cw, rfl, -⟩ := hsl.wts.form
      have HSAT := Lib.hid hsat
      have HFT : Hid (BI (blkB r m k)) := Lib.hid (blkB_fit hsl.head.2 hsl.body.2 (by unfold InI; omega))
      have HNX := Lib.hid hnx
      have HSL := Lib.hid hsl
      clear hr hsat hnx hsl
      go_upto_region 6 with fail
      have hal3 := bal (Below.refl wr.heap.size wr) (.cells #[.bool r.choice, .slice ah r.head.length ch, .bool r.sum, .int .i64 r.bound, .slice ab r.body.length cb, .slice aw r.w.length cw] 64)
      have HS3 := Lib.hid (HSR.out.on hal3)
      have HK3 := Lib.hid (Blk.new wr [.bool r.choice, .slice ah r.head.length ch, .bool r.sum, .int .i64 r.bound, .slice ab r.body.length cb, .slice aw r.w.length cw] 64)
      have HR3 : Hid (RuleSl (wr.alloc (.cells #[.bool r.choice, .slice ah r.head.length ch, .bool r.sum, .int .i64 r.bound, .slice ab r.body.length cb, .slice aw r.w.length cw] 64)) r (.slice ah r.head.length ch) (.slice ab r.body.length cb) (.slice aw r.w.length cw)) := Lib.hid (HSL.out.below hal3)
      have HO3 := Lib.hid (HMO.out.below hal3)
      have HB3 := Lib.hid (bon HBL.out hal3)
      have kk3 := HK3.out.cell
      have hz3 : w1.heap.size ≤ (wr.alloc (.cells #[.bool r.choice, .slice ah r.head.length ch, .bool r.sum, .int .i64 r.bound, .slice ab r.body.length cb, .slice aw r.w.length cw] 64)).heap.size := by simp; omega
      clear hal3 k0 k1 k2 k3 k4 k5 hbl2 kp
      generalize wr.alloc (.cells #[.bool r.choice, .slice ah r.head.length ch, .bool r.sum, .int .i64 r.bound, .slice ab r.body.length cb, .slice aw r.w.length cw] 64) = W3 at *
      generalize wr.heap.size = rb at *
      by_cases hin : a ∈ r.head
      case neg =>
        have HH : Hid (decide (a ∈ r.head) = false) := Lib.hid (decide_eq_false hin)
        have HN2 : Hid (blksTo p m a (k + 1) = blksTo p m a k) := Lib.hid (by rw [HNX.out, if_neg hin])
        clear hin
        go_wp2_with (go_at_call 53; (with_reducible refine (in17_call HH.out HR3.out.head).mono ?_); rintro e w4 ⟨rfl, rfl⟩)
        first
          | (go_roundw
             case rel => (exact ⟨k + 1, hlt, by go_num, by rw [HN2.out]; exact HO3.out, HB3.out⟩)
             case measure => (simp [intOf]; omega))
          | (refine ⟨?_, ?_⟩
             · (exact ⟨k + 1, hlt, by go_num, by rw [HN2.out]; exact HO3.out, HB3.out⟩)
             · (simp [intOf]; omega))
      have HH : Hid (decide (a ∈ r.head) = true) := Lib.hid (decide_eq_true hin)
      have HN1 : Hid (blksTo p m a (k + 1) = blksTo p m a k ++ [blkB r m k]) := Lib.hid (by rw [HNX.out, if_pos hin])
      have hltk : ((k : Int)) ≤ 40000 := by omega
      clear hin
      go_upto_region 8 with (go_at_call 53; (with_reducible refine (in17_call HH.out HR3.out.head).mono ?_); rintro e w4 ⟨rfl, rfl⟩)
      have HBK0 : Hid (Blk (W3.alloc (.cells #[.int .i64 (k : Int), .int .u8 0, .int .i64 0] 71)) W3.heap.size [.int .i64 k, .int .u8 0, .int .i64 0] 71) := Lib.hid (Blk.new W3 [.int .i64 (k : Int), .int .u8 0, .int .i64 0] 71)
      have HB4 := Lib.hid (bal (Below.refl W3.heap.size W3) (.cells #[.int .i64 (k : Int), .int .u8 0, .int .i64 0] 71))
      clear kk3
      generalize W3.alloc (.cells #[.int .i64 (k : Int), .int .u8 0, .int .i64 0] 71) = W4 at *
      have kr4 := (HK3.out.below HB4.out).cell
      have HRI4 : Hid (RuleIs W4 (.agg #[.bool r.choice, .slice ah r.head.length ch, .bool r.sum, .int .i64 r.bound, .slice ab r.body.length cb, .slice aw r.w.length cw]) r) := Lib.hid ⟨_, _, _, rfl, HR3.out.below HB4.out⟩
      have HMI4 := Lib.hid (HS3.out.set.below HB4.out)
      cases hbt : bodyT r m with
      | false =>
        have HBT := Lib.hid hbt
        rcases (show r.sum = true ∨ r.sum = false by cases r.sum <;> simp) with hsum | hsum
        case inl =>
          have HSUM := Lib.hid hsum
          have HFX : Hid (blkB r m k = ⟨k, 2, 0⟩) := Lib.hid (by unfold blkB; rw [if_pos hbt, if_pos hsum])
          clear hbt hsum
          go_upto_region 25 with (go_at_call 57; (with_reducible refine (body19_call HBT.out HRI4.out HMI4.out HDR.out.ok).mono ?_); rintro e w6 ⟨rfl, hb6⟩; have HB6 := Lib.hid (bon HB4.out hb6); have HBK6 := Lib.hid (HBK0.out.below hb6); have kr6 := (HK3.out.below HB6.out).cell; have kb6 := HBK6.out.cell; have kf6 := HBK6.out.free; rw [HSUM.out] at kr6; clear hb6)
          have hcb : Blk (w6.setCell ⟨W3.heap.size, 1, none⟩ (.int .u8 2)) W3.heap.size [.int .i64 k, .int .u8 2, .int .i64 0] 71 := HBK6.out.set 1 _
          have hcl := HB6.out.setCell (p := ⟨W3.heap.size, 1, none⟩) (Nat.le_refl _) (.int .u8 2)
          clear kr4 kr6 kb6 kf6
          generalize w6.setCell ⟨W3.heap.size, 1, none⟩ (.int .u8 2) = W7 at *
          have HFT2 : Hid (BI ⟨k, 2, 0⟩) := Lib.hid (by rw [← HFX.out]; exact HFT.out)
          have HN2 : Hid (blksTo p m a (k + 1) = blksTo p m a k ++ [⟨k, 2, 0⟩]) := Lib.hid (by rw [HN1.out, HFX.out])
          have HS6 := Lib.hid (HS3.out.on hcl)
          have HO6 := Lib.hid (HO3.out.below hcl)
          have HB9 := Lib.hid (bon HB3.out hcl)
          have kz6 := hcb.cell
          have hz6 := hcl.size
          clear hcb hcl
          go_wp2_with (at_builtin; refine wpList_appendK rfl _ _ rfl w1.heap.size (W7).heap.size _ _ (blksTo p m a k) [⟨k, 2, 0⟩] rfl rfl (HO6.out.below (bal (Below.refl _ _) _)) (MineK.one W7 HFT2.out) (by simp) (by simp; omega) (by simp; omega) ?_; intro g cap w7 hm7 hg7; have HB7 : Hid (Below w1.heap.size w1 w7) := Lib.hid (belowK2 (bal HB9.out _) (HO6.out.below (bal (Below.refl _ _) _)) hg7 (by simp; omega)); have HM7 := Lib.hid hm7; clear hm7 hg7)
          first
            | (go_roundw
               case rel => (exact ⟨k + 1, hlt, by go_num, by rw [HN2.out]; exact HM7.out, HB7.out⟩)
               case measure => (simp [intOf]; omega))
            | (refine ⟨?_, ?_⟩
               · (exact ⟨k + 1, hlt, by go_num, by rw [HN2.out]; exact HM7.out, HB7.out⟩)
               · (simp [intOf]; omega))
        case inr =>
          have HSUM := Lib.hid hsum
          have HAN : Hid (∃ j, j < r.body.length ∧ (!litT m (ix r.body j)) = true) := Lib.hid (by
            unfold bodyT at hbt
            rw [if_neg (by rw [hsum]; exact Bool.false_ne_true)] at hbt
            have hn := allR_not (n := r.body.length) (f := fun j => litT m (ix r.body j))
            rw [hbt] at hn
            exact anyR_ex (by simpa using hn))
          obtain ⟨LT, hLT⟩ : ∃ z, ix r.body (firI (fun j => !litT m (ix r.body j)) r.body.length) = z := ⟨_, rfl⟩
          have HLT := Lib.hid hLT
          have HFX : Hid (blkB r m k = ⟨k, 1, LT⟩) := Lib.hid (by unfold blkB; rw [if_pos hbt, if_neg (by rw [hsum]; exact Bool.false_ne_true), hLT])
          clear hbt hLT hsum
          go_upto_region 20 with (go_at_call 57; (with_reducible refine (body19_call HBT.out HRI4.out HMI4.out HDR.out.ok).mono ?_); rintro e w6 ⟨rfl, hb6⟩; have HB6 := Lib.hid (bon HB4.out hb6); have HBK6 := Lib.hid (HBK0.out.below hb6); have kr6 := (HK3.out.below HB6.out).cell; have kb6 := HBK6.out.cell; have kf6 := HBK6.out.free; rw [HSUM.out] at kr6; clear hb6)
          have hcb : Blk (w6.setCell ⟨W3.heap.size, 1, none⟩ (.int .u8 1)) W3.heap.size [.int .i64 k, .int .u8 1, .int .i64 0] 71 := HBK6.out.set 1 _
          have hcl := HB6.out.setCell (p := ⟨W3.heap.size, 1, none⟩) (Nat.le_refl _) (.int .u8 1)
          have HCB := Lib.hid hcb
          have HCL := Lib.hid hcl
          have kr7 := (HK3.out.below hcl).cell
          clear kr4 kr6 kb6 kf6 hcb hcl
          generalize w6.setCell ⟨W3.heap.size, 1, none⟩ (.int .u8 1) = W7 at *
          go_wp2
          go_loopw [12] (fun i wx => RbL W3 [.int .i64 k, .int .u8 1] (fun j => !litT m (ix r.body j)) (fun j => ix r.body j) r.body.length i wx) (fun i _ => (intOf i + 1).toNat)
          case atStart => exact ⟨r.body.length, Nat.le_refl _, rfl, by rw [firG_end]; exact HCB.out, HCL.out⟩
          case round =>
            obtain ⟨q, hq, rfl, hbk, hbl⟩ := hrel
            have hwk := hbk.lt
            have kr8 := (HK3.out.below hbl).cell
            have kb8 := hbk.cell
            have kf8 := hbk.free
            by_cases hq0 : q = 0
            · subst hq0
              rw [firG_zero HAN.out, HLT.out] at hbk
              have hcb := hbk
              have hcl := hbl
              rw [show (((0 : Nat) : Int) - 1) = -1 from rfl]
              clear kr8 kb8 kf8 hbk hbl kr7
              have HFT2 : Hid (BI ⟨k, 1, LT⟩) := Lib.hid (by rw [← HFX.out]; exact HFT.out)
              have HN2 : Hid (blksTo p m a (k + 1) = blksTo p m a k ++ [⟨k, 1, LT⟩]) := Lib.hid (by rw [HN1.out, HFX.out])
              have HS6 := Lib.hid (HS3.out.on hcl)
              have HO6 := Lib.hid (HO3.out.below hcl)
              have HB9 := Lib.hid (bon HB3.out hcl)
              have kz6 := hcb.cell
              have hz6 := hcl.size
              clear hcb hcl
              go_wp2_with (at_builtin; refine wpList_appendK rfl _ _ rfl w1.heap.size (wr).heap.size _ _ (blksTo p m a k) [⟨k, 1, LT⟩] rfl rfl (HO6.out.below (bal (Below.refl _ _) _)) (MineK.one wr HFT2.out) (by simp) (by simp; omega) (by simp; omega) ?_; intro g cap w7 hm7 hg7; have HB7 : Hid (Below w1.heap.size w1 w7) := Lib.hid (belowK2 (bal HB9.out _) (HO6.out.below (bal (Below.refl _ _) _)) hg7 (by simp; omega)); have HM7 := Lib.hid hm7; clear hm7 hg7)
              first
                | (go_roundw
                   case rel => (exact ⟨k + 1, hlt, by go_num, by rw [HN2.out]; exact HM7.out, HB7.out⟩)
                   case measure => (simp [intOf]; omega))
                | (refine ⟨?_, ?_⟩
                   · (exact ⟨k + 1, hlt, by go_num, by rw [HN2.out]; exact HM7.out, HB7.out⟩)
                   · (simp [intOf]; omega))
            · obtain ⟨q, rfl⟩ : ∃ q', q = q' + 1 := ⟨q - 1, by omega⟩
              have hlt5 : q < r.body.length := by omega
              obtain ⟨b5, o5, rfl, hb5, hc5⟩ := (HR3.out.body.below hbl).at hlt5
              rw [show (((q + 1 : Nat) : Int) - 1) = (q : Int) by omega]
              have hge : decide ((0 : Int) ≤ (q : Int)) = true := decide_eq_true (by omega)
              have HMI8 := Lib.hid (HS3.out.set.below hbl)
              have HRX : Hid (-9223372036854775808 < ix r.body q ∧ ix r.body q ≤ 9223372036854775807) := Lib.hid ⟨HDR.out.ok.lit q hlt5, (HR3.out.body.2 q).2⟩
              have HCL8 := Lib.hid hbl
              cases hl : litT m (ix r.body q) with
              | true =>
                have HL := Lib.hid hl
                have hbn : Blk wr W3.heap.size ([.int .i64 k, .int .u8 1] ++ [.int .i64 (firG (fun j => !litT m (ix r.body j)) (fun j => ix r.body j) r.body.length q)]) 71 := by
                  rw [firG_step hlt5, if_neg (by rw [hl]; exact Bool.false_ne_true)]; exact hbk
                have HBN := Lib.hid hbn
                clear hl hbn hbk hbl kb8
                go_wp2_with (go_at_call 58; (with_reducible refine (true19_call HL.out HMI8.out HRX.out).mono ?_); rintro e w9 ⟨rfl, rfl⟩)
                first
                  | (go_roundw
                     case rel => (exact ⟨q, by omega, by go_num, HBN.out, HCL8.out⟩)
                     case measure => (simp [intOf]))
                  | (refine ⟨?_, ?_⟩
                     · (exact ⟨q, by omega, by go_num, HBN.out, HCL8.out⟩)
                     · (simp [intOf]))
              | false =>
                have HL := Lib.hid hl
                have hbn : Blk (wr.setCell ⟨W3.heap.size, 2, none⟩ (.int .i64 (ix r.body q))) W3.heap.size ([.int .i64 k, .int .u8 1] ++ [.int .i64 (firG (fun j => !litT m (ix r.body j)) (fun j => ix r.body j) r.body.length q)]) 71 := by
                  rw [firG_step hlt5, if_pos (by rw [hl]; rfl)]; exact hbk.set 2 _
                have HBN := Lib.hid hbn
                have HCL9 := Lib.hid (hbl.setCell (p := ⟨W3.heap.size, 2, none⟩) (Nat.le_refl _) (.int .i64 (ix r.body q)))
                clear hl hbn hbk hbl
                go_wp2_with (go_at_call 58; (with_reducible refine (true19_call HL.out HMI8.out HRX.out).mono ?_); rintro e w9 ⟨rfl, rfl⟩)
                first
                  | (go_roundw
                     case rel => (exact ⟨q, by omega, by go_num, HBN.out, HCL9.out⟩)
                     case measure => (simp [intOf]))
                  | (refine ⟨?_, ?_⟩
                     · (exact ⟨q, by omega, by go_num, HBN.out, HCL9.out⟩)
                     · (simp [intOf]))
      | true =>
        have HBT := Lib.hid hbt
        rcases (show r.choice = true ∨ r.choice = false by cases r.choice <;> simp) with hch | hch
        case inl =>
          have HCH := Lib.hid hch
          have HFX : Hid (blkB r m k = ⟨k, 4, 0⟩) := Lib.hid (by unfold blkB; rw [if_neg (by rw [hbt]; exact Bool.noConfusion), if_pos hch])
          clear hbt hch
          go_upto_region 10 with (go_at_call 57; (with_reducible refine (body19_call HBT.out HRI4.out HMI4.out HDR.out.ok).mono ?_); rintro e w6 ⟨rfl, hb6⟩; have HB6 := Lib.hid (bon HB4.out hb6); have HBK6 := Lib.hid (HBK0.out.below hb6); have kb6 := HBK6.out.cell; have kf6 := HBK6.out.free; clear hb6)
          have hcb : Blk (w6.setCell ⟨W3.heap.size, 1, none⟩ (.int .u8 4)) W3.heap.size [.int .i64 k, .int .u8 4, .int .i64 0] 71 := HBK6.out.set 1 _
          have hcl := HB6.out.setCell (p := ⟨W3.heap.size, 1, none⟩) (Nat.le_refl _) (.int .u8 4)
          have kr7 := (HK3.out.below hcl).cell
          rw [HCH.out] at kr7
          clear kr4 kb6 kf6
          generalize w6.setCell ⟨W3.heap.size, 1, none⟩ (.int .u8 4) = W7 at *
          have HFT2 : Hid (BI ⟨k, 4, 0⟩) := Lib.hid (by rw [← HFX.out]; exact HFT.out)
          have HN2 : Hid (blksTo p m a (k + 1) = blksTo p m a k ++ [⟨k, 4, 0⟩]) := Lib.hid (by rw [HN1.out, HFX.out])
          have HS6 := Lib.hid (HS3.out.on hcl)
          have HO6 := Lib.hid (HO3.out.below hcl)
          have HB9 := Lib.hid (bon HB3.out hcl)
          have kz6 := hcb.cell
          have hz6 := hcl.size
          clear hcb hcl
          go_wp2_with (at_builtin; refine wpList_appendK rfl _ _ rfl w1.heap.size (W7).heap.size _ _ (blksTo p m a k) [⟨k, 4, 0⟩] rfl rfl (HO6.out.below (bal (Below.refl _ _) _)) (MineK.one W7 HFT2.out) (by simp) (by simp; omega) (by simp; omega) ?_; intro g cap w7 hm7 hg7; have HB7 : Hid (Below w1.heap.size w1 w7) := Lib.hid (belowK2 (bal HB9.out _) (HO6.out.below (bal (Below.refl _ _) _)) hg7 (by simp; omega)); have HM7 := Lib.hid hm7; clear hm7 hg7)
          first
            | (go_roundw
               case rel => (exact ⟨k + 1, hlt, by go_num, by rw [HN2.out]; exact HM7.out, HB7.out⟩)
               case measure => (simp [intOf]; omega))
            | (refine ⟨?_, ?_⟩
               · (exact ⟨k + 1, hlt, by go_num, by rw [HN2.out]; exact HM7.out, HB7.out⟩)
               · (simp [intOf]; omega))
        case inr =>
          have HCH := Lib.hid hch
          have HAN : Hid (∃ j, j < r.head.length ∧ decide (ix r.head j ∈ m) = true) := Lib.hid (by
            have := HSAT.out
            unfold satT at this
            rw [hch, hbt] at this
            exact anyR_ex (by simpa using this))
          obtain ⟨LT, hLT⟩ : ∃ z, ix r.head (firI (fun j => decide (ix r.head j ∈ m)) r.head.length) = z := ⟨_, rfl⟩
          have HLT := Lib.hid hLT
          have HFX : Hid (blkB r m k = ⟨k, 3, LT⟩) := Lib.hid (by unfold blkB; rw [if_neg (by rw [hbt]; exact Bool.noConfusion), if_neg (by rw [hch]; exact Bool.false_ne_true), hLT])
          clear hbt hLT hch
          go_upto_region 10 with (go_at_call 57; (with_reducible refine (body19_call HBT.out HRI4.out HMI4.out HDR.out.ok).mono ?_); rintro e w6 ⟨rfl, hb6⟩; have HB6 := Lib.hid (bon HB4.out hb6); have HBK6 := Lib.hid (HBK0.out.below hb6); have kb6 := HBK6.out.cell; have kf6 := HBK6.out.free; clear hb6)
          have hcb0 : Blk (w6.setCell ⟨W3.heap.size, 1, none⟩ (.int .u8 4)) W3.heap.size [.int .i64 k, .int .u8 4, .int .i64 0] 71 := HBK6.out.set 1 _
          have hcl0 := HB6.out.setCell (p := ⟨W3.heap.size, 1, none⟩) (Nat.le_refl _) (.int .u8 4)
          have kr7 := (HK3.out.below hcl0).cell
          have kb7 := hcb0.cell
          have kf7 := hcb0.free
          rw [HCH.out] at kr7
          clear kr4 kb6 kf6
          generalize w6.setCell ⟨W3.heap.size, 1, none⟩ (.int .u8 4) = W6 at *
          go_upto_region 12 with fail
          have hcb : Blk (W6.setCell ⟨W3.heap.size, 1, none⟩ (.int .u8 3)) W3.heap.size [.int .i64 k, .int .u8 3, .int .i64 0] 71 := hcb0.set 1 _
          have hcl := hcl0.setCell (p := ⟨W3.heap.size, 1, none⟩) (Nat.le_refl _) (.int .u8 3)
          have HCB := Lib.hid hcb
          have HCL := Lib.hid hcl
          have kr9 := (HK3.out.below hcl).cell
          clear kr7 kb7 kf7 hcb hcl hcb0 hcl0
          generalize W6.setCell ⟨W3.heap.size, 1, none⟩ (.int .u8 3) = W7 at *
          go_wp2
          go_loopw [11] (fun i wx => RbL W3 [.int .i64 k, .int .u8 3] (fun j => decide (ix r.head j ∈ m)) (fun j => ix r.head j) r.head.length i wx) (fun i _ => (intOf i + 1).toNat)
          case atStart => exact ⟨r.head.length, Nat.le_refl _, rfl, by rw [firG_end]; exact HCB.out, HCL.out⟩
          case round =>
            obtain ⟨q, hq, rfl, hbk, hbl⟩ := hrel
            have hwk := hbk.lt
            have kr8 := (HK3.out.below hbl).cell
            have kb8 := hbk.cell
            have kf8 := hbk.free
            by_cases hq0 : q = 0
            · subst hq0
              rw [firG_zero HAN.out, HLT.out] at hbk
              have hcb := hbk
              have hcl := hbl
              rw [show (((0 : Nat) : Int) - 1) = -1 from rfl]
              clear kr8 kb8 kf8 hbk hbl kr9
              have HFT2 : Hid (BI ⟨k, 3, LT⟩) := Lib.hid (by rw [← HFX.out]; exact HFT.out)
              have HN2 : Hid (blksTo p m a (k + 1) = blksTo p m a k ++ [⟨k, 3, LT⟩]) := Lib.hid (by rw [HN1.out, HFX.out])
              have HS6 := Lib.hid (HS3.out.on hcl)
              have HO6 := Lib.hid (HO3.out.below hcl)
              have HB9 := Lib.hid (bon HB3.out hcl)
              have kz6 := hcb.cell
              have hz6 := hcl.size
              clear hcb hcl
              go_wp2_with (at_builtin; refine wpList_appendK rfl _ _ rfl w1.heap.size (wr).heap.size _ _ (blksTo p m a k) [⟨k, 3, LT⟩] rfl rfl (HO6.out.below (bal (Below.refl _ _) _)) (MineK.one wr HFT2.out) (by simp) (by simp; omega) (by simp; omega) ?_; intro g cap w7 hm7 hg7; have HB7 : Hid (Below w1.heap.size w1 w7) := Lib.hid (belowK2 (bal HB9.out _) (HO6.out.below (bal (Below.refl _ _) _)) hg7 (by simp; omega)); have HM7 := Lib.hid hm7; clear hm7 hg7)
              first
                | (go_roundw
                   case rel => (exact ⟨k + 1, hlt, by go_num, by rw [HN2.out]; exact HM7.out, HB7.out⟩)
                   case measure => (simp [intOf]; omega))
                | (refine ⟨?_, ?_⟩
                   · (exact ⟨k + 1, hlt, by go_num, by rw [HN2.out]; exact HM7.out, HB7.out⟩)
                   · (simp [intOf]; omega))
            · obtain ⟨q, rfl⟩ : ∃ q', q = q' + 1 := ⟨q - 1, by omega⟩
              have hlt5 : q < r.head.length := by omega
              obtain ⟨b5, o5, rfl, hb5, hc5⟩ := (HR3.out.head.below hbl).at hlt5
              rw [show (((q + 1 : Nat) : Int) - 1) = (q : Int) by omega]
              have hge : decide ((0 : Int) ≤ (q : Int)) = true := decide_eq_true (by omega)
              have HMI8 := Lib.hid (HS3.out.set.below hbl)
              have HCL8 := Lib.hid hbl
              cases hl : decide (ix r.head q ∈ m) with
              | false =>
                have HL := Lib.hid hl
                have hbn : Blk wr W3.heap.size ([.int .i64 k, .int .u8 3] ++ [.int .i64 (firG (fun j => decide (ix r.head j ∈ m)) (fun j => ix r.head j) r.head.length q)]) 71 := by
                  rw [firG_step hlt5, if_neg (by rw [hl]; exact Bool.false_ne_true)]; exact hbk
                have HBN := Lib.hid hbn
                clear hl hbn hbk hbl kb8
                go_wp2_with (go_at_call 53; (with_reducible refine (in17_call HL.out HMI8.out).mono ?_); rintro e w9 ⟨rfl, rfl⟩)
                first
                  | (go_roundw
                     case rel => (exact ⟨q, by omega, by go_num, HBN.out, HCL8.out⟩)
                     case measure => (simp [intOf]))
                  | (refine ⟨?_, ?_⟩
                     · (exact ⟨q, by omega, by go_num, HBN.out, HCL8.out⟩)
                     · (simp [intOf]))
              | true =>
                have HL := Lib.hid hl
                have hbn : Blk (wr.setCell ⟨W3.heap.size, 2, none⟩ (.int .i64 (ix r.head q))) W3.heap.size ([.int .i64 k, .int .u8 3] ++ [.int .i64 (firG (fun j => decide (ix r.head j ∈ m)) (fun j => ix r.head j) r.head.length q)]) 71 := by
                  rw [firG_step hlt5, if_pos hl]; exact hbk.set 2 _
                have HBN := Lib.hid hbn
                have HCL9 := Lib.hid (hbl.setCell (p := ⟨W3.heap.size, 2, none⟩) (Nat.le_refl _) (.int .i64 (ix r.head q)))
                clear hl hbn hbk hbl
                go_wp2_with (go_at_call 53; (with_reducible refine (in17_call HL.out HMI8.out).mono ?_); rintro e w9 ⟨rfl, rfl⟩)
                first
                  | (go_roundw
                     case rel => (exact ⟨q, by omega, by go_num, HBN.out, HCL9.out⟩)
                     case measure => (simp [intOf]))
                  | (refine ⟨?_, ?_⟩
                     · (exact ⟨q, by omega, by go_num, HBN.out, HCL9.out⟩)
                     · (simp [intOf]))
    · obtain rfl : k = p.rules.length := by omega
      have hz1 : w.heap.size + 1 ≤ w1.heap.size := Nat.le_of_eq HZ0.out.symm
      have HMO2 := Lib.hid (HMO.out.mono hz1)
      clear hz1
      go_wp2
      go_ret
      exact ⟨_, rfl, HMO2.out, HSR.out.below⟩
theorem chk_parts {p : GP} {m : List Int} {x : XP} (h : chkX p m x = true) : allR x.whys.length (fun i => rngY p (ixY x.whys i)) = true ∧ (x.rest ++ atomsY x.whys).Perm m ∧ allR (x.whys.length - 1) (fun i => ordY (ixY x.whys i) (ixY x.whys (i + 1))) = true := by
  unfold chkX at h
  simp only [Bool.and_eq_true, decide_eq_true_eq] at h
  exact ⟨h.1, h.2.1, h.2.2.2.1⟩
theorem chk_len {p : GP} {m : List Int} {x : XP} (h : chkX p m x = true) : x.rest.length + x.whys.length = m.length := by
  have := (chk_parts h).2.1.length_eq
  simpa [atomsY] using this
end Go.Proofs.YtgakoainjgjimaaGreatDoor
