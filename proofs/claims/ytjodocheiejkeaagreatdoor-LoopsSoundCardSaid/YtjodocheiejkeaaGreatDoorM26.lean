/- My texts Lp8R, AnyR, Mk1, Subs, StabP, Rf26p, Lt0, StG, Us27, Sm27, Awk0, merged. -/
import Derived.Test.YtjodocheiejkeaaGreatDoorM23
import Derived.Test.YtjodocheiejkeaaGreatDoorM06
import Derived.Test.YtjodocheiejkeaaGreatDoorM22
import Derived.Test.YtjodocheiejkeaaGreatDoorM04
import Derived.Test.YtjodocheiejkeaaGreatDoorM03
import Derived.Test.YtjodocheiejkeaaGreatDoorM00
import Derived.Test.YtjodocheiejkeaaGreatDoorProg
import Derived.WalkKit
import Derived.Lib.Hide
import Derived.Deep.QuietTactic
import Derived.BigQuiet
import Derived.Lib.Bytealg
import Derived.MapKept
import Derived.Maps.OwnSet
import Derived.Maps.OwnOps
import Derived.Test.YtjodocheiejkeaaGreatDoorM02
import Derived.WalkSpells
import Derived.Lib.SliceRun
import Derived.Test.YtjodocheiejkeaaGreatDoorM01
import Derived.Deep.AppendLies
import Derived.Deep.DeepCutAuto
import Derived.RangeFuncNested
import Derived.RangeFuncBound
import Derived.RangeFuncCalls
import Derived.RangeFuncLeaves
import Derived.OwnWalkIn
import Derived.TacticsInMore
import Derived.LoopNIn
import Derived.LoopIn
import Derived.Stop.RegionWithIn
import Derived.Test.YtjodocheiejkeaaGreatDoorM12
import Derived.Test.YtjodocheiejkeaaGreatDoorM08
import Derived.Sort.QuietThIn
import Derived.Test.YtjodocheiejkeaaGreatDoorM25
import Derived.Test.YtjodocheiejkeaaGreatDoorM07
import Derived.Test.YtjodocheiejkeaaGreatDoorM24
import Derived.Shelf.Abstract
import Derived.Test.YtjodocheiejkeaaGreatDoorM11
import Derived.Laws.EntriesVeiled
import Derived.Test.YtjodocheiejkeaaGreatDoorM10
import Derived.Test.YtjodocheiejkeaaGreatDoorM09
import Derived.Maps.RangeWalk
import Derived.Lib.SlicesCompact
import Derived.Shelf.Sort.Plain
import Derived.Shelf.Slices.CompactI
import Derived.Shelf.Slices.In.SortNone
import Derived.Shelf.Strconv.Itoa3
import Derived.Shelf.Strings.BuilderK
import Derived.Sort.OwnSortedInts
import Derived.RangeFuncBox
import Derived.Maps.OwnIn
import Derived.Lib.RowBridge
import Derived.Deep.OwnRows
import Derived.Deep.AppendSrc
import Derived.Test.YtjodocheiejkeaaGreatDoorM05
import Derived.Deep.RegionWith
import Derived.Test.YtjodocheiejkeaaGreatDoorM15
import Derived.Test.YtjodocheiejkeaaGreatDoorM14
import Derived.Test.YtjodocheiejkeaaGreatDoorM13
import Derived.Deep.LoopGhost
import Derived.Deep.DrawnRows
import Derived.Test.YtjodocheiejkeaaGreatDoorM16
import Derived.Test.YtjodocheiejkeaaGreatDoorM17
import Derived.Deep.DeepMust
import Derived.ProofKit
import Derived.OpenShut
import Derived.ChangeArms
import Derived.SizedLaws
import Derived.Test.YtjodocheiejkeaaGreatDoorM21
import Derived.Shelf.SlSortCmp.Kit1
import Derived.RangeFuncOwn
import Derived.Test.YtjodocheiejkeaaGreatDoorM20
import Derived.Test.YtjodocheiejkeaaGreatDoorM18
import Derived.Deep.RegionHeld3
import Derived.Laws.ResultCell
import Derived.Laws.Rows
import Derived.Deep.RegionLaw

namespace Go.Proofs.YtjodocheiejkeaaGreatDoor
open Go.RowKit
attribute [local go_sem] Oper.semAt_some
theorem SupSt.limR {wi w0 w w' : World} {p : GP} {S : List Int} {pb sb : Nat} {R : List Nat} {vn vs vr vm vset : Value} (h : SupSt wi w p S pb sb vn vs vr vm vset) (hl : Lim w0.heap.size R w w') (hN : wi.heap.size ≤ w0.heap.size) (hR : ∀ i ∈ R, wi.heap.size ≤ i) (hp : pb < w0.heap.size ∧ pb ∉ R) (hs : sb < w0.heap.size ∧ sb ∉ R) : SupSt wi w' p S pb sb vn vs vr vm vset :=
  ⟨h.below.trans ((hl.mono hN (fun _ hi _ => hi)).below (fun i hi => hR i hi)), h.pb.same (hl.block _ hp.1 hp.2), h.sb.same (hl.block _ hs.1 hs.2)⟩
theorem suw_snoc {w : World} (l : List (SupW w)) (x : SupW w) : suw (l ++ [x]) = suw l ++ [x.1.2] := by simp [suw]
theorem suw_len {w : World} (l : List (SupW w)) : (suw l).length = l.length := by simp [suw]
def SupSlotsR (wi : World) (p : GP) (S : List Int) (n0 : Nat) (W0 : World) (R : List Nat) (J : List (SupW wi) → World → Prop) (i : Value) (wr : World) : Prop :=
  ∃ (k : Nat) (pre : List (SupW wi)), k ≤ p.rules.length ∧ i = .int .i64 k ∧ suw pre = supsTo p S k ∧ J pre wr ∧ Lim n0 R W0 wr
set_option maxHeartbeats 4000000 in
set_option maxRecDepth 100000 in
theorem sups_stopsR (p : GP) (S : List Int) (wi w0 : World) (vn vs vr vm vset : Value) (hP : ProgIs wi (.agg #[.int .i64 p.n, vn, vs, vr, vm]) p) (hS : Ints wi vset S) (R : List Nat) (pb sb : Nat)
    (hst : SupSt wi w0 p S pb sb vn vs vr vm vset) (hR : ∀ i ∈ R, wi.heap.size ≤ i) (hne : pb ∉ R ∧ sb ∉ R) (hok : ∀ k, k < p.rules.length → SUok2 (supAt p S k)) (n : Nat) (hn : 1 ≤ n) :
    SeqStopsK Fence.wide n Tryz.prog 119 #[.pointer (some ⟨pb, 0, none⟩), .pointer (some ⟨sb, 0, none⟩)] (fun x : SupW wi => #[x.1.1]) (Lim w0.heap.size R)
      (fun xs => suw xs = supsTo p S p.rules.length) (fun pre => ∃ k, k ≤ p.rules.length ∧ suw pre = supsTo p S k) p.rules.length w0 := by
  intro l J Jx W hW hJ hJx hY h0
  obtain ⟨vn', vs', vr', vm', e, hPS⟩ := hP
  simp only [Value.agg.injEq, Array.mk.injEq, List.cons.injEq, and_true] at e
  obtain ⟨-, rfl, rfl, rfl, rfl⟩ := e
  obtain ⟨a1, c1, rfl, -, hl1, -, hcell⟩ := hPS.rules.form
  have hP : Hid (ProgIs wi (.agg #[.int .i64 p.n, vn, vs, .slice a1 p.rules.length c1, vm]) p) := Lib.hid ⟨_, _, _, _, rfl, hPS⟩
  obtain ⟨a4, c4, rfl, -, hl4, -, -⟩ := hS.form
  have HS := Lib.hid hS
  have HST := Lib.hid hst
  have HOK := Lib.hid hok
  have HY := Lib.hid hY
  have HJ := Lib.hid hJ
  have HJX := Lib.hid hJx
  have H0 := Lib.hid h0
  have HW := Lib.hid hW
  have HCELL := Lib.hid hcell
  have HPS := Lib.hid hPS
  have hpbl := hst.pb.lt
  have hsbl := hst.sb.lt
  have hN := hst.below.size
  have HSW : Hid (SupSt wi W p S pb sb vn vs (.slice a1 p.rules.length c1) vm (.slice a4 S.length c4)) := Lib.hid (hst.on hW)
  have kp := HSW.out.pb.cell
  have hzW := hW.size
  clear hS hst hok hY hJ hJx h0 hW hcell hPS
  refine callsIn_of_wp Tryz.func119 rfl trivial ?_ rfl
  simp only [Tryz.ntmps119, List.size_toArray, List.length_cons, List.length_nil, Nat.reduceAdd, Nat.reduceSub, Array.replicate_succ, Array.replicate_zero, List.push_toArray, List.append_toArray, List.nil_append, List.cons_append]
  gi_wp2
  clear kp
  gi_loopw [9] (fun i wr => SupSlotsR wi p S w0.heap.size W R J i wr) (fun i _ => p.rules.length - (intOf i).toNat)
  case atStart => exact ⟨0, [], Nat.zero_le _, rfl, rfl, H0.out, Lim.refl _ _ _⟩
  case round =>
    obtain ⟨k, pre, hk, rfl, hpre, hj, hlim⟩ := hrel
    have HJR := Lib.hid hj
    have HPRE := Lib.hid hpre
    have HLIM := Lib.hid hlim
    have HSR : Hid (SupSt wi wr p S pb sb vn vs (.slice a1 p.rules.length c1) vm (.slice a4 S.length c4)) := Lib.hid (HSW.out.limR hlim (by omega) hR ⟨by omega, hne.1⟩ ⟨by omega, hne.2⟩)
    clear hj hpre hlim
    by_cases hlt : k < p.rules.length
    · obtain ⟨b, off, rfl, hbl, hc⟩ := HCELL.out (by omega)
      obtain ⟨vh, vb, vw, ⟨k0, k1, k2, k3, k4, k5⟩, hsl⟩ := hc k hlt
      have hbw := HSR.out.below
      have hk0 := (bcell hbw _ _ hbl).trans k0
      have hk1 := (bcell hbw _ _ hbl).trans k1
      have hk2 := (bcell hbw _ _ hbl).trans k2
      have hk3 := (bcell hbw _ _ hbl).trans k3
      have hk4 := (bcell hbw _ _ hbl).trans k4
      have hk5 := (bcell hbw _ _ hbl).trans k5
      have HSL := Lib.hid hsl
      obtain ⟨ah, ch, rfl, -, hlh, -, -⟩ := hsl.head.form
      obtain ⟨ab, cb, rfl, -, hlb, -, -⟩ := hsl.body.form
      obtain ⟨aw, cw, rfl, -, hlw, -, -⟩ := hsl.wts.form
      clear hc k0 k1 k2 k3 k4 k5 hsl hbw
      have hal := bal (Below.refl wr.heap.size wr) (.cells #[.bool (ixR p.rules k).choice, .slice ah (ixR p.rules k).head.length ch, .bool (ixR p.rules k).sum, .int .i64 (ixR p.rules k).bound, .slice ab (ixR p.rules k).body.length cb, .slice aw (ixR p.rules k).w.length cw] 55)
      have hbr := Blk.new wr [.bool (ixR p.rules k).choice, .slice ah (ixR p.rules k).head.length ch, .bool (ixR p.rules k).sum, .int .i64 (ixR p.rules k).bound, .slice ab (ixR p.rules k).body.length cb, .slice aw (ixR p.rules k).w.length cw] 55
      have hj1 := (AbidesFrom.below HJ.out HJR.out hal)
      have hs1 := HSR.out.on hal
      have hl1' : Lim w0.heap.size R W (wr.alloc (.cells #[.bool (ixR p.rules k).choice, .slice ah (ixR p.rules k).head.length ch, .bool (ixR p.rules k).sum, .int .i64 (ixR p.rules k).bound, .slice ab (ixR p.rules k).body.length cb, .slice aw (ixR p.rules k).w.length cw] 55)) := HLIM.out.trans (.of_below hal (Nat.le_trans hzW HLIM.out.size))
      gi_wp2_with fail
      generalize wr.alloc (.cells #[.bool (ixR p.rules k).choice, .slice ah (ixR p.rules k).head.length ch, .bool (ixR p.rules k).sum, .int .i64 (ixR p.rules k).bound, .slice ab (ixR p.rules k).body.length cb, .slice aw (ixR p.rules k).w.length cw] 55) = W1 at *
      have HBR := Lib.hid hbr
      have HS1 := Lib.hid hs1
      have HJ1 := Lib.hid hj1
      have HL1 := Lib.hid hl1'
      have hzr := hal.size
      have hzl := HLIM.out.size
      clear hal hbr hs1 hj1 hl1' hk0 hk1 hk2 hk3 hk4 hk5
      have hdr : Below W1.heap.size W1 W1.drew := (Below.refl _ _).drew
      have HDR := Lib.hid hdr
      have HSD := Lib.hid (HS1.out.on hdr)
      have hk1 := HBR.out.cell
      have hp1 := HS1.out.pb.cell
      have hq1 := HS1.out.sb.cell
      have HCA : Hid (∀ W2, Below W1.heap.size W1 W2 → Calls Tryz.prog 42 #[.slice ah (ixR p.rules k).head.length ch, .func (.func 120) #[] #[.pointer (some ⟨sb, 0, none⟩)]] W2 fun e w' => e = .returned (.bool (headIn S (ixR p.rules k))) ∧ Below W2.heap.size W2 w') :=
        Lib.hid (fun W2 h2 => ctn_sup _ (ixR p.rules k).head W2 (HSL.out.head.below (HS1.out.on h2).below) (fun j => decide (ix (ixR p.rules k).head j ∈ S)) _ (fun w' hb' j _ => (sup11_any S sb _ _ w' (((HS1.out.on h2).on hb').sb) (HS.out.below ((HS1.out.on h2).on hb').below)).mono fun e w'' ⟨e1, e2⟩ => ⟨e1, e2 ▸ Below.refl _ _⟩))
      have hki : InI (k : Int) := by unfold InI; omega
      have HLEN : Hid (pre.length < p.rules.length) := Lib.hid (by
        have h1 := supsTo_len p S k
        rw [← HPRE.out, suw_len] at h1
        omega)
      have HBI : Hid (InI (bodyI p k)) := Lib.hid (by have h1 : 1 ≤ bodyI p k ∧ bodyI p k ≤ 1000000 := (HOK.out k hlt).1.b; unfold InI; omega)
      have HX : Hid (SupIs wi (.agg #[.bool (ixR p.rules k).choice, .slice ah (ixR p.rules k).head.length ch, .bool (ixR p.rules k).sum, .int .i64 (ixR p.rules k).bound, .slice ab (ixR p.rules k).body.length cb, .slice aw (ixR p.rules k).w.length cw, .int .i64 (bodyI p k), .slice a4 S.length c4]) (supAt p S k)) := Lib.hid ⟨_, _, _, _, rfl, HSL.out, HS.out, HBI.out⟩
      cases hh : headIn S (ixR p.rules k) with
      | false =>
        have HST2 : Hid (supsTo p S (k + 1) = supsTo p S k) := Lib.hid (by rw [supsTo, hh]; rfl)
        rw [hh] at HCA
        clear hh hk1 hp1 hq1
        have kx := fun (e : Ext W1) (o : Nat) => (bcell e.below _ o HBR.out.lt).trans (HBR.out.cell o)
        refine wpIn_wide.2 ?_
        refine wp_region_ext (by kernel_rfl) (by kernel_rfl) ?_
        repeat (go_big_quiet_step ((go_at_call 42; exact Calls.ext_of (HCA.out _ (Ext.below _)))))
        refine wpQuiet_nil ?_
        intro w9 hw'
        obtain ⟨e9, he9⟩ := hw'
        have hb9 := e9.below
        rw [← he9] at hb9
        clear he9 e9
        try dsimp only
        have HB9 := Lib.hid hb9
        clear hb9
        gi_wp2
        first
          | (go_roundw
             case rel => (exact ⟨k + 1, pre, by omega, by go_num, by rw [HPRE.out, HST2.out], AbidesFrom.below HJ.out HJ1.out HB9.out, HL1.out.trans (.of_below HB9.out (by omega))⟩)
             case measure => (simp [intOf]; omega))
          | (refine ⟨?_, ?_⟩
             · (exact ⟨k + 1, pre, by omega, by go_num, by rw [HPRE.out, HST2.out], AbidesFrom.below HJ.out HJ1.out HB9.out, HL1.out.trans (.of_below HB9.out (by omega))⟩)
             · (simp [intOf]; omega))
      | true =>
        have HST2 : Hid (supsTo p S (k + 1) = supsTo p S k ++ [supAt p S k]) := Lib.hid (by rw [supsTo, hh]; rfl)
        have HC := Lib.hid (HCA.out _ hdr)
        rw [hh] at HC
        clear hh
        gi_region_with (first
          | (refine ⟨trivial, ?_⟩; gi_at_call 42; refine (callsIn_wide.2 HC.out).mono ?_; rintro e w1 ⟨rfl, hb1⟩; have HSE := Lib.hid (HSD.out.on hb1); have kp1 := HSE.out.pb.cell; have ks1 := HSE.out.sb.cell; have kr1 := (HBR.out.drew.below hb1).cell; have HB1 := Lib.hid hb1; clear hb1)
          | (refine ⟨trivial, ?_⟩; gi_at_call 24; refine (callsIn_wide.2 (body_any _ p _ (hP.out.below HSE.out.below) (k : Int) hki)).mono ?_; rintro e w2 ⟨rfl, hb2⟩; have HSF := Lib.hid (HSE.out.on hb2); have ks2 := HSF.out.sb.cell; have kr2 := ((HBR.out.drew.below HB1.out).below hb2).cell; have HB2 := Lib.hid (HDR.out.trans (bon HB1.out hb2)); have HJ2 := Lib.hid (AbidesFrom.below HJ.out HJ1.out HB2.out); clear hb2; obtain ⟨fn, tmps, assign, body, hy, hR⟩ := HY.out pre ⟨(_, supAt p S k), HX.out, HOK.out k hlt⟩ w2 HJ2.out HLEN.out; dsimp only at hy)
          | (refine hR.mono ?_; rintro e W3 h3; obtain ⟨bb, rfl, hbt, hbf⟩ := yieldEnd h3; have HBT := Lib.hid hbt; have HBF := Lib.hid hbf; clear hbt hbf h3))
        all_goals (cases bb with
          | false =>
            gi_wp2
            refine bodyPost_ret (results_none rfl _ _ _) rfl ?_
            exact ⟨⟨_, rfl⟩, .inr ⟨pre ++ [_], ⟨k + 1, hlt, by rw [suw_snoc, HPRE.out, HST2.out]⟩, HBF.out (by first | exact rfl | exact trivial)⟩⟩
          | true =>
            gi_wp2
            first
              | (go_roundw
                 case rel => (exact ⟨k + 1, pre ++ [_], hlt, by go_num, by rw [suw_snoc, HPRE.out, HST2.out], (HBT.out (by first | exact rfl | exact trivial)).1, (HL1.out.trans (.of_below HB2.out (by omega))).trans (HBT.out (by first | exact rfl | exact trivial)).2⟩)
                 case measure => (simp [intOf]; omega))
              | (refine ⟨?_, ?_⟩
                 · (exact ⟨k + 1, pre ++ [_], hlt, by go_num, by rw [suw_snoc, HPRE.out, HST2.out], (HBT.out (by first | exact rfl | exact trivial)).1, (HL1.out.trans (.of_below HB2.out (by omega))).trans (HBT.out (by first | exact rfl | exact trivial)).2⟩)
                 · (simp [intOf]; omega)))
    · gi_wp2
      go_end0
      obtain rfl : k = p.rules.length := by omega
      exact ⟨⟨_, rfl⟩, .inl ⟨pre, HPRE.out, HJR.out⟩⟩
end Go.Proofs.YtjodocheiejkeaaGreatDoor
namespace Go.Proofs.YtjodocheiejkeaaGreatDoor
open Go.RowKit
section
variable {P : Program} {ops : Array Oper} {Q : Exit → Act → World → Prop} {md : Region.Mode} {n : Nat}
theorem rows_wide {row : String} {args : Array Value} {w : World} {R : Value → World → Prop} (h : _root_.Go.Rows P row args w R) : RowsIn Fence.wide n P row args w R :=
  fun c cs _ => let ⟨v, w', r, s⟩ := h c cs; ⟨v, w', r, stepsIn_wide.2 s⟩
theorem oper_wide {o : Oper} (hd : noDefer o = true) {a : Act} {w : World} {K : Act → World → Prop} (h : o.wp P a w K Q) : o.wpIn Fence.wide n P a w K Q := by
  refine ⟨fun _ _ => trivial, ?_⟩
  rw [Oper.semAt_eq _ _ _ (noDefer_ne hd)]
  unfold Oper.wp at h
  generalize (execOp a.eval o).run P w = r at *
  cases r with
  | ok x w' =>
    cases x <;> simp only [Oper.upon] at h <;> simp only [Oper.uponIn]
    case value => exact h
    case skip => exact h
    case defer => exact h
    case enter => exact ⟨fun e => (Bool.noConfusion (show false = true from e)), callsIn_wide.2 h⟩
    case row => exact ⟨fun e => (Bool.noConfusion (show false = true from e)), rows_wide h⟩
    all_goals exact h.elim
  | halt x w' =>
    cases x <;> simp only [Oper.upon] at h <;> simp only [Oper.uponIn]
    case panic => exact h
    all_goals exact h.elim
theorem any_wide (hd : ops.all noDefer = true) (hQ : ¬ LetsOut Q) : ∀ (fuel : Nat) (listed : Array Bool) (a : Act) (w : World), wpAny P md ops Q fuel listed a w → wpAnyIn Fence.wide n P md ops Q fuel listed a w
  | 0, _, _, _, h => h
  | fuel + 1, listed, a, w, h => by
    refine ⟨h.1, fun i hi => ?_⟩
    have h2 := h.2 i hi
    unfold wpOp at h2
    unfold wpOpIn
    cases ho : ops[i]? with
    | none =>
      simp only [ho] at h2 ⊢
      exact any_wide hd hQ fuel _ _ _ h2
    | some o =>
      simp only [ho] at h2 ⊢
      have hdo : noDefer o = true := by
        obtain ⟨hi, rfl⟩ := Array.getElem?_eq_some_iff.1 ho
        exact (Array.all_eq_true.1 hd) i hi
      split at h2
      · rename_i hw
        rw [if_pos hw]
        exact Oper.wpIn_mono (fun a w h => any_wide hd hQ fuel _ a w h) (oper_wide hdo (h2.resolve_right fun h3 => hQ h3.2))
      · rename_i hw
        rw [if_neg hw]
        exact ⟨fun _ _ => trivial, any_wide hd hQ fuel _ _ _ h2⟩
theorem wp_region_tailR {id r : Nat} {a : Act} {w : World} {l : List Oper} (k : Nat) (C' : World → Prop) (Φ : Nat → List Value → Value → Nat → Nat → World → Prop) (ism : Nat → Bool) (hm : P.follows .mixedOrders = true) (hd : l.toArray.all noDefer = true) (hB : chk l.toArray (masks l) = true) (hT : chkTail l (masks l) k ism = true)
    (hC : ∀ w', Below w.heap.size w w' → C' w')
    (hΦ : ∀ i args v lo hi w w', Φ i args v lo hi w → Below w.heap.size w w' → Φ i args v lo hi w')
    (h : walkP P l.toArray w (fun i w' => if lateB l (dm (masks l)) k i then C' w' else ∃ e : Ext w, w' = e.world) Φ ism (dm (masks l)) (tailW P l.toArray C' (fun e a w => e = .normal ∧ Q e a w) (l.drop k)) (l.take k) 0 a [] []) :
    (Code.region id l.toArray true).wpIn (Fence.wide.inRound r) n P Q a w := by
  have hNL : ¬ LetsOut (fun e a w => e = .normal ∧ Q e a w) := by
    intro h
    obtain ⟨_, _, h, _⟩ := h
    cases h
  refine Code.wpIn_mono (Q := fun e a w => e = .normal ∧ Q e a w) (fun e a w h => h.2) ?_
  refine wpIn_region_draw fun t => ops_inRound r rfl hd _ _ _ ?_
  simp only [Region.schedule, hm, Bool.true_or, if_true]
  refine wpAnyIn_sound _ t _ a _ (any_wide hd hNL _ _ _ _ ?_)
  refine any_tail (masks l) k C' Φ ism hB hT hC hΦ ?_
  refine walkP_cl (fun i w' hw' => ?_) _ 0 a [] [] h
  split at hw'
  · rename_i hl; rw [if_pos hl]; exact hw'
  · rename_i hl; rw [if_neg hl]; exact ⟨⟨w', hw'⟩, rfl⟩
end
theorem lt_lengthM : ∀ (l : List Int) (a b : Int), l.Pairwise (· < ·) → (∀ x ∈ l, a ≤ x ∧ x < b) → a ≤ b → (l.length : Int) ≤ b - a
  | [], a, b, _, _, h => by simp; omega
  | x :: l, a, b, h1, h2, h => by
    obtain ⟨h3, h4⟩ := List.pairwise_cons.1 h1
    have hx := h2 x (.head _)
    have := lt_lengthM l (x + 1) b h4 (fun y hy => ⟨by have := h3 y hy; omega, (h2 y (.tail _ hy)).2⟩) (by omega)
    simp only [List.length_cons]
    push_cast
    omega
theorem lits_leM {l : List Int} {n : Int} (h : orderedB l n = true) (hn : 0 ≤ n) : (l.length : Int) ≤ 2 * n + 2 := by
  have hp : (l.map litKey).Pairwise (· < ·) := by
    rw [List.pairwise_iff_getElem]
    intro i j hi hj hij
    simp only [List.length_map] at hi hj
    have := ordered_lt h j hj i hij
    simpa [ix, List.getD_eq_getElem?_getD, List.getElem?_eq_getElem hi, List.getElem?_eq_getElem hj] using this
  have := lt_lengthM (l.map litKey) 0 (2 * n + 2) hp (fun x hx => by
    obtain ⟨y, hy, rfl⟩ := List.mem_map.1 hx
    have := ordered_lit h hy
    unfold litKey
    split <;> omega) (by omega)
  simpa using this
def mkΦ (l : List Int) : Nat → List Value → Value → Nat → Nat → World → Prop := fun _ _ v _ _ w => Ints w v l ∧ ∃ a n c, v = .slice a n c
theorem mkΦ_later (l : List Int) : ∀ i args v lo hi w w', mkΦ l i args v lo hi w → Below w.heap.size w w' → mkΦ l i args v lo hi w' :=
  fun _ _ _ _ _ _ _ h hb => ⟨h.1.below hb, h.2⟩
theorem wp_appendM {o : Oper} {a : Act} {w : World} {K : Act → World → Prop} {Q : Exit → Act → World → Prop} (s x : Operand)
    (ho : o.op = .call { callee := .builtin .append, args := #[s, x], argTypes := #[23, 23] }) (base : Nat) (v y : Value) (l m : List Int) (hs : a.eval s = v) (hx : a.eval x = y) (h : QRow base w v l) (hy : Ints w y m)
    (hlen : (l.length + m.length) * 8 ≤ 140737488351232) (hbase : base ≤ w.heap.size)
    (hK : ∀ v' w', QRow base w' v' (l ++ m) → w.grownBy w' v.ownBlock → (v'.ownBlock = v.ownBlock ∨ v'.ownBlock = some w.heap.size) → K (a.put o.dst v') w') : o.wp Tryz.prog a w K Q := by
  obtain ⟨v', w', hr, h2, h3, h4⟩ := run_appendQs base 23 o.type Tryz.underlying23 rfl w v l h y m hy hlen hbase
  unfold Oper.wp execOp
  simp only [ho, resolve, invoke, builtin, Sem.run_bind, Sem.run_pure, Result.andThen_ok, List.map_toArray, List.map_cons, List.map_nil, hs, hx, hr]
  exact hK v' w' h2 h3 h4
theorem subL_len (bits : Int) : ∀ k, (subL bits k).length ≤ k
  | 0 => by simp [subL]
  | k + 1 => by
    have := subL_len bits k
    unfold subL
    split
    · rw [List.length_append, List.length_singleton]; omega
    · omega
def SbRel (bits : Int) (w : World) (n : Nat) (v i : Value) (wx : World) : Prop :=
  ∃ k : Nat, k ≤ n ∧ i = .int .i64 ((k : Int) + 1) ∧ QRow w.heap.size wx v (subL bits k) ∧ Below w.heap.size w wx
set_option maxHeartbeats 1000000 in
set_option maxRecDepth 100000 in
theorem subset_any (n : Nat) (bits : Int) (hn : n ≤ 60) (w : World) :
    Calls Tryz.prog 15 #[.int .i64 n, .int .i64 bits] w fun e w' => ∃ v, e = .returned v ∧ QRow w.heap.size w' v (subL bits n) ∧ Below w.heap.size w w' := by
  go_enter Tryz.func15, Tryz.ntmps15
  go_wp2
  go_loopw [5, 6] (fun v i wx => SbRel bits w n v i wx) (fun _ i _ => n + 1 - (intOf i).toNat)
  case atStart => exact ⟨0, Nat.zero_le _, rfl, QRow.nil _ _, Below.refl _ _⟩
  case round =>
    obtain ⟨k, hk, rfl, hq, hbl⟩ := hrel
    have HQ := Lib.hid hq
    have HBX := Lib.hid hbl
    have hlen2 := subL_len bits k
    have hlen3 : ((subL bits k).length + 1) * 8 ≤ 140737488351232 := by omega
    obtain ⟨av, nv, cv, rfl⟩ := hq.form
    have hzr := hbl.size
    clear hq hbl
    by_cases hlt : k < n
    · have hbt := bit_test (bits := bits) (k := k)
      have hmin : min k 64 = k := Nat.min_eq_left (by omega)
      cases hb : bitAt bits k with
      | true =>
        rw [hb] at hbt
        have HS : Hid (subL bits (k + 1) = subL bits k ++ [(k : Int) + 1]) := Lib.hid (by simp [subL, hb])
        have hxI : InI ((k : Int) + 1) := by unfold InI; omega
        have HXI := Lib.hid hxI
        clear hb hxI
        go_wp2_with (at_builtin; refine wpList_appendQ rfl _ _ 23 Tryz.underlying23 rfl w.heap.size _ (subL bits k) ((k : Int) + 1) rfl (HQ.out.kept (w' := wr.alloc (.cells #[.int .i64 ((k : Int) + 1)] 3)) (fun i h1 h2 _ => Below.heap_alloc _ _ _ h2)) wr.heap.size 1 rfl (Blk.new wr [.int .i64 ((k : Int) + 1)] _) HXI.out hlen3 (by simp; omega) ?_; intro v4 w4 hq4 hg4 hl4; have HB4 := Lib.hid (below_push HBX.out HQ.out (Nat.le_refl _) hg4); have HQ4 := Lib.hid hq4; clear hq4 hg4 hl4)
        first
          | (go_roundw
             case rel => (exact ⟨k + 1, hlt, by go_num, by rw [HS.out]; exact HQ4.out, HB4.out⟩)
             case measure => (simp [intOf]; omega))
          | (refine ⟨?_, ?_⟩
             · (exact ⟨k + 1, hlt, by go_num, by rw [HS.out]; exact HQ4.out, HB4.out⟩)
             · (simp [intOf]; omega))
      | false =>
        rw [hb] at hbt
        have HS : Hid (subL bits (k + 1) = subL bits k) := Lib.hid (by simp [subL, hb])
        clear hb
        go_wp2
        first
          | (go_roundw
             case rel => (exact ⟨k + 1, hlt, by go_num, by rw [HS.out]; exact HQ.out, HBX.out⟩)
             case measure => (simp [intOf]; omega))
          | (refine ⟨?_, ?_⟩
             · (exact ⟨k + 1, hlt, by go_num, by rw [HS.out]; exact HQ.out, HBX.out⟩)
             · (simp [intOf]; omega))
    · obtain rfl : k = n := by omega
      go_wp2
      go_ret
      exact ⟨_, rfl, HQ.out, HBX.out⟩
theorem off_body {p : GP} {m : List Int} (hv : validE p = 0) (hm : setQ p.n m = true) {i : Nat} (hi : i < p.rules.length) : offB (extA p m) (p.n + 1 + i) = !bodyT (ixR p.rules i) m := by
  have hn := (validP hv).n
  have e0 : (p.n + 1 + (i : Int)).natAbs - 1 = p.n.toNat + i := by omega
  have e1 := ext_ix hv hm (j := p.n.toNat + i) (by omega)
  have e2 : extAt p m (p.n.toNat + i) = if bodyT (ixR p.rules i) m then 1 else -1 := by
    unfold extAt
    rw [if_neg (by omega), show p.n.toNat + i - p.n.toNat = i by omega]
  unfold offB
  rw [e0, e1, e2, ext_len hv hm, decide_eq_true (show (p.n + 1 + (i : Int)).natAbs ≤ p.n.toNat + p.rules.length by omega), Bool.true_and, decide_eq_true (show 0 < p.n + 1 + (i : Int) by omega)]
  cases bodyT (ixR p.rules i) m <;> simp
theorem setQ_rng {n : Int} {m : List Int} (h : setQ n m = true) {x : Int} (hx : x ∈ m) : 1 ≤ x ∧ x ≤ n := by
  obtain ⟨j, hj, rfl⟩ := mem_ix.1 hx
  have := allR_get h j hj
  unfold setTo at this
  simp only [Bool.and_eq_true, decide_eq_true_eq] at this
  exact this.1
theorem inc_mem {l : List Int} {n : Int} (h : increasingB l n = true) {x : Int} (hx : x ∈ l) : 1 ≤ x ∧ x ≤ n := by
  unfold increasingB at h
  rw [Bool.and_eq_true] at h
  have h2 := ordered_lit h.1 hx
  obtain ⟨k, hk, rfl⟩ := mem_ix.1 hx
  have h1 := allR_get h.2 k hk
  rw [decide_eq_true_eq] at h1
  omega
end Go.Proofs.YtjodocheiejkeaaGreatDoor
namespace Go.Proofs.YtjodocheiejkeaaGreatDoor
def excR (g : Int → Bool) (u : SU) : Bool :=
  impB u || g u.b || (!u.r.sum && u.r.body.any g) || (oth u).any (fun h => g (-h)) || (u.r.sum && decide (wgt u (fun l => !g l) u.r.body.length < u.r.bound))
theorem exc_is (u : SU) (a : List Int) : exc u a = excR (offB a) u := by
  unfold exc excR ex2 ex3 ex4
  rw [any_ix, any_ix (oth u) (fun h => offB a (-h))]
theorem oth_any (u : SU) (f : Int → Bool) : (oth u).any f = (!u.r.choice && u.r.head.any (fun h => !decide (h ∈ u.S) && f h)) := by
  unfold oth
  split
  · rename_i h; rw [h]; rfl
  · rename_i h
    rw [Bool.eq_false_iff.2 h]
    unfold keepF
    rw [List.take_length, List.any_filter]
    rfl
theorem supsTo_all (p : GP) (S : List Int) (f : SU → Bool) : ∀ k, (supsTo p S k).all f = allR k (fun i => !headIn S (ixR p.rules i) || f (supAt p S i))
  | 0 => rfl
  | k + 1 => by
    have e : supsTo p S (k + 1) = if headIn S (ixR p.rules k) then supsTo p S k ++ [supAt p S k] else supsTo p S k := rfl
    rw [allR_succ, ← supsTo_all p S f k, e]
    split
    · rename_i h; rw [h, List.all_append]; simp
    · rename_i h; rw [Bool.eq_false_iff.2 h]; simp
theorem supAt_b {p : GP} (hv : validE p = 0) (S : List Int) {i : Nat} (hi : i < p.rules.length) : (supAt p S i).b = p.n + 1 + i := by
  show bodyI p i = _
  unfold bodyI
  rw [if_neg (by omega)]
end Go.Proofs.YtjodocheiejkeaaGreatDoor
namespace Go.Proofs.YtjodocheiejkeaaGreatDoor
theorem avW_wgt {u : SU} {T m : List Int} {g : Int → Bool} (hw : ∀ k, k < u.r.body.length → 0 ≤ ix u.r.w k) (hT : ∀ x ∈ T, x ∉ u.S) (hg : ∀ x ∈ u.r.body, hlT T m x = true → g x = true) : ∀ k, k ≤ u.r.body.length → avW T m u.r k ≤ wgt u g k
  | 0, _ => by simp [avW, wgt]
  | k + 1, hk => by
    have ih := avW_wgt hw hT hg k (by omega)
    have h1 := hw k (by omega)
    have hx := ix_mem (show k < u.r.body.length by omega)
    unfold avW wgt
    cases hh : hlT T m (ix u.r.body k) with
    | false => rw [if_neg Bool.false_ne_true]; split <;> omega
    | true =>
      have hi : intB u.S (ix u.r.body k) = false := by
        unfold intB
        by_cases h0 : 0 < ix u.r.body k
        · unfold hlT at hh
          rw [if_pos h0] at hh
          rw [decide_eq_false (hT _ (of_decide_eq_true hh)), Bool.and_false]
        · rw [decide_eq_false h0, Bool.false_and]
      rw [hi, hg _ hx hh, if_pos rfl, if_pos (show (!false && true) = true from rfl)]
      omega
theorem wgt_avW {u : SU} {T m : List Int} {g : Int → Bool} (hw : ∀ k, k < u.r.body.length → 0 ≤ ix u.r.w k) (hg : ∀ x ∈ u.r.body, intB u.S x = false → g x = true → hlT T m x = true) : ∀ k, k ≤ u.r.body.length → wgt u g k ≤ avW T m u.r k
  | 0, _ => by simp [avW, wgt]
  | k + 1, hk => by
    have ih := wgt_avW hw hg k (by omega)
    have h1 := hw k (by omega)
    have hx := ix_mem (show k < u.r.body.length by omega)
    unfold avW wgt
    cases hi : intB u.S (ix u.r.body k) with
    | true => rw [if_neg (by simp)]; split <;> omega
    | false =>
      cases hgx : g (ix u.r.body k) with
      | false => rw [if_neg (by simp)]; split <;> omega
      | true => rw [hg _ hx hi hgx, if_pos (show (!false && true) = true from rfl), if_pos rfl]; omega
theorem lit_all {r : GR} {m : List Int} (hs : r.sum = false) (hb : bodyT r m = true) {l : Int} (hl : l ∈ r.body) : litT m l = true := by
  unfold bodyT at hb
  rw [hs, if_neg Bool.false_ne_true] at hb
  obtain ⟨j, hj, rfl⟩ := mem_ix.1 hl
  exact allR_get hb j hj
theorem hl_all {r : GR} {T m : List Int} (hs : r.sum = false) (hb : avT T m r = true) {l : Int} (hl : l ∈ r.body) : hlT T m l = true := by
  unfold avT at hb
  rw [hs, if_neg Bool.false_ne_true] at hb
  obtain ⟨j, hj, rfl⟩ := mem_ix.1 hl
  exact allR_get hb j hj
theorem hl_self (m : List Int) (l : Int) : hlT m m l = litT m l := rfl
theorem excR_no {p : GP} {m U : List Int} {g : Int → Bool} (hv : validE p = 0) (_hM : modelsB p m = true) {i : Nat} (hi : i < p.rules.length)
    (hg1 : ∀ x ∈ (ixR p.rules i).body, g x = true → litT m x = false) (hg2 : g (p.n + 1 + i) = true → bodyT (ixR p.rules i) m = false) (hg3 : ∀ x ∈ (ixR p.rules i).head, g (-x) = true → x ∈ m)
    (hx : excR g (supAt p U i) = true) (ha : avT (m.filter fun x => decide (x ∉ U)) m (ixR p.rules i) = true) : (ixR p.rules i).choice = false ∧ ∃ x ∈ (ixR p.rules i).head, x ∈ m.filter fun x => decide (x ∉ U) := by
  have hB := bodyW_valid hv i hi
  have hok := bodyOk_valid hv hi
  have hTm : ∀ x ∈ m.filter (fun x => decide (x ∉ U)), x ∈ m := fun z hz => (List.mem_filter.1 hz).1
  have hTU : ∀ x ∈ m.filter (fun x => decide (x ∉ U)), x ∉ U := fun z hz => of_decide_eq_true (List.mem_filter.1 hz).2
  have hb : bodyT (ixR p.rules i) m = true := by rw [← avT_self]; exact avT_mono hTm hB ha
  have hw : (ixR p.rules i).sum = true → ∀ k, k < (ixR p.rules i).body.length → 0 ≤ ix (ixR p.rules i).w k := fun hs k hk => (hok.w hs k (by rw [hok.wlen hs]; exact hk)).1
  generalize hT : m.filter (fun x => decide (x ∉ U)) = T at *
  unfold excR at hx
  simp only [Bool.or_eq_true] at hx
  rcases hx with (((hx | hx) | hx) | hx) | hx
  · exfalso
    unfold impB at hx
    cases hs : (ixR p.rules i).sum with
    | true =>
      rw [show (supAt p U i).r = ixR p.rules i from rfl, hs, if_pos rfl, decide_eq_true_eq] at hx
      have h1 := avW_wgt (u := supAt p U i) (T := T) (m := m) (g := fun _ => true) (hw hs) hTU (fun _ _ _ => rfl) (ixR p.rules i).body.length (Nat.le_refl _)
      unfold avT at ha
      rw [hs, if_pos rfl, decide_eq_true_eq] at ha
      have h1 : avW T m (ixR p.rules i) (ixR p.rules i).body.length ≤ wgt (supAt p U i) (fun _ => true) (ixR p.rules i).body.length := h1
      omega
    | false =>
      rw [show (supAt p U i).r = ixR p.rules i from rfl, hs, if_neg Bool.false_ne_true] at hx
      obtain ⟨j, hj, hx⟩ := List.any_eq_true.1 hx
      have h1 := hl_all hs ha (ix_mem (List.mem_range.1 hj))
      unfold intB at hx
      rw [Bool.and_eq_true, decide_eq_true_eq, decide_eq_true_eq] at hx
      unfold hlT at h1
      rw [if_pos hx.1] at h1
      exact hTU _ (of_decide_eq_true h1) hx.2
  · rw [supAt_b hv U hi] at hx
    rw [hg2 hx] at hb; cases hb
  · rw [Bool.and_eq_true] at hx
    obtain ⟨hs, hx⟩ := hx
    rw [show (supAt p U i).r = ixR p.rules i from rfl] at hs
    have hs : (ixR p.rules i).sum = false := by simpa using hs
    obtain ⟨l, hl, hgl⟩ := List.any_eq_true.1 hx
    have h1 := lit_all hs hb hl
    rw [hg1 l hl hgl] at h1; cases h1
  · rw [oth_any, Bool.and_eq_true] at hx
    obtain ⟨hc, hx⟩ := hx
    obtain ⟨h, hh, hgh⟩ := List.any_eq_true.1 hx
    rw [Bool.and_eq_true] at hgh
    rw [show (supAt p U i).r = ixR p.rules i from rfl] at hc
    have hgh1 := hgh.1
    rw [show (supAt p U i).S = U from rfl] at hgh1
    refine ⟨by simpa using hc, h, hh, ?_⟩
    rw [← hT]
    exact List.mem_filter.2 ⟨hg3 h hh hgh.2, by simpa using hgh1⟩
  · exfalso
    rw [Bool.and_eq_true, decide_eq_true_eq] at hx
    obtain ⟨hs, hx⟩ := hx
    have hs : (ixR p.rules i).sum = true := hs
    have h1 : avW T m (ixR p.rules i) (ixR p.rules i).body.length ≤ wgt (supAt p U i) (fun l => !g l) (ixR p.rules i).body.length := avW_wgt (u := supAt p U i) (T := T) (m := m) (g := fun l => !g l) (hw hs) hTU (fun x hxb hh => by
      cases hgx : g x with
      | false => rfl
      | true =>
        have h2 := hg1 x hxb hgx
        have h3 := hlT_mono hTm hh
        rw [hl_self, h2] at h3; cases h3) (ixR p.rules i).body.length (Nat.le_refl _)
    unfold avT at ha
    rw [hs, if_pos rfl, decide_eq_true_eq] at ha
    have hx : wgt (supAt p U i) (fun l => !g l) (ixR p.rules i).body.length < (ixR p.rules i).bound := hx
    omega
theorem stabD_loop {p : GP} {m U : List Int} {g : Int → Bool} (hv : validE p = 0) (h : StabD p m) (hg : (supsTo p U p.rules.length).all (excR g) = true)
    (hg1 : ∀ i, i < p.rules.length → ∀ x ∈ (ixR p.rules i).body, g x = true → litT m x = false) (hg2 : ∀ i : Nat, i < p.rules.length → g (p.n + 1 + i) = true → bodyT (ixR p.rules i) m = false) (hg3 : ∀ i, i < p.rules.length → ∀ x ∈ (ixR p.rules i).head, g (-x) = true → x ∈ m)
    {y : Int} (hy : y ∈ U) (hym : y ∈ m) : False := by
  rw [supsTo_all] at hg
  have hc : ClosedM p m (m.filter fun x => decide (x ∉ U)) := fun i hi ha => by
    have hB := bodyW_valid hv i hi
    have hb : bodyT (ixR p.rules i) m = true := by rw [← avT_self]; exact avT_mono (fun z hz => (List.mem_filter.1 hz).1) hB ha
    have key : headIn U (ixR p.rules i) = true → (ixR p.rules i).choice = false ∧ ∃ x ∈ (ixR p.rules i).head, x ∈ m.filter fun x => decide (x ∉ U) := fun ht => by
      have h1 := allR_get hg i hi
      rw [ht, Bool.not_true, Bool.false_or] at h1
      exact excR_no hv h.model hi (hg1 i hi) (hg2 i hi) (hg3 i hi) h1 ha
    have touch : ∀ x ∈ (ixR p.rules i).head, x ∈ U → headIn U (ixR p.rules i) = true := fun x hx hxU => by
      obtain ⟨j, hj, rfl⟩ := mem_ix.1 hx
      exact anyR_true j hj (decide_eq_true hxU)
    refine ⟨fun hch x hx hxm => ?_, fun hch => ?_⟩
    · by_cases hxU : x ∈ U
      · have := (key (touch x hx hxU)).1
        rw [hch] at this; cases this
      · exact List.mem_filter.2 ⟨hxm, decide_eq_true hxU⟩
    · obtain ⟨x, hx, hxm⟩ := models_ex h.model hi hb hch
      by_cases hxU : x ∈ U
      · exact (key (touch x hx hxU)).2
      · exact ⟨x, hx, List.mem_filter.2 ⟨hxm, decide_eq_true hxU⟩⟩
  have := (List.mem_filter.1 (h.least _ (fun z hz => (List.mem_filter.1 hz).1) hc y hym)).2
  exact of_decide_eq_true this hy
theorem ext_off1 {p : GP} {m : List Int} (hv : validE p = 0) (hm : setQ p.n m = true) {i : Nat} (hi : i < p.rules.length) : ∀ x ∈ (ixR p.rules i).body, offB (extA p m) x = !litT m x := fun x hx => by
  have := ordered_lit ((validP hv).body i hi) hx
  exact off_lit hv hm (by omega) (by omega)
theorem ext_off3 {p : GP} {m : List Int} (hv : validE p = 0) (hm : setQ p.n m = true) {i : Nat} (hi : i < p.rules.length) : ∀ x ∈ (ixR p.rules i).head, offB (extA p m) (-x) = decide (x ∈ m) := fun x hx => by
  have := inc_mem ((validP hv).head i hi) hx
  rw [off_lit hv hm (by omega) (by omega)]
  unfold litT
  rw [if_neg (by omega), Int.neg_neg, Bool.not_not]
theorem stabD_unf {p : GP} {m U : List Int} (hv : validE p = 0) (hm : setQ p.n m = true) (h : StabD p m) (hu : unfB p (extA p m) U = true) : ∀ y ∈ U, y ∉ m := fun y hy hym => by
  unfold unfB allExc at hu
  rw [Bool.and_eq_true, Bool.and_eq_true] at hu
  have hg : (supsTo p U p.rules.length).all (excR (offB (extA p m))) = true := by
    rw [← hu.2.2]
    congr 1
    funext u
    exact (exc_is u _).symm
  refine stabD_loop hv h hg (fun i hi x hx hgx => ?_) (fun i hi hgb => ?_) (fun i hi x hx hgx => ?_) hy hym
  · rw [ext_off1 hv hm hi x hx] at hgx; simpa using hgx
  · rw [off_body hv hm hi] at hgb; simpa using hgb
  · rw [ext_off3 hv hm hi x hx] at hgx; exact of_decide_eq_true hgx
theorem stabD_of {p : GP} {m : List Int} (hv : validE p = 0) (hm : setQ p.n m = true) (hs : suppB p m = true) (hn : ∀ U : List Int, U.Pairwise (· < ·) → (∀ x ∈ U, x ∈ m) → U ≠ [] → unfB p (extA p m) U = false) : StabD p m := by
  have hmod : modelsB p m = true := by unfold suppB at hs; rw [Bool.and_eq_true] at hs; exact hs.1
  refine ⟨hmod, fun T hT hc x hx => ?_⟩
  refine Classical.byContradiction fun hxT => ?_
  have hsub : ∀ y ∈ m.filter (fun y => decide (y ∉ T)), y ∈ m := fun y hy => (List.mem_filter.1 hy).1
  have hsrt : (m.filter fun y => decide (y ∉ T)).Pairwise (· < ·) := (setQ_sorted hm).filter _
  have hne : m.filter (fun y => decide (y ∉ T)) ≠ [] := fun e => by
    have : x ∈ m.filter (fun y => decide (y ∉ T)) := List.mem_filter.2 ⟨hx, decide_eq_true hxT⟩
    rw [e] at this; cases this
  have hu := hn _ hsrt hsub hne
  have hUT : ∀ y ∈ m.filter (fun y => decide (y ∉ T)), y ∉ T := fun y hy => of_decide_eq_true (List.mem_filter.1 hy).2
  have hmT : ∀ y ∈ m, y ∉ m.filter (fun y => decide (y ∉ T)) → y ∈ T := fun y hy hyU => Classical.byContradiction fun h => hyU (List.mem_filter.2 ⟨hy, decide_eq_true h⟩)
  generalize m.filter (fun y => decide (y ∉ T)) = U at *
  have hset : setB' p.n U = true := by
    unfold setB'
    rw [Bool.and_eq_true, decide_eq_true_eq]
    refine ⟨allR_true fun j hj => ?_, by cases U with | nil => exact absurd rfl hne | cons a l => simp⟩
    have hr := setQ_rng hm (hsub _ (ix_mem hj))
    unfold setTo
    rw [decide_eq_true hr, Bool.true_and, Bool.or_eq_true]
    by_cases h0 : j = 0
    · exact .inl (by simp [h0])
    · refine .inr (decide_eq_true ?_)
      have := List.pairwise_iff_getElem.1 hsrt (j - 1) j (by omega) hj (by omega)
      rw [← ix_get (show j - 1 < U.length by omega), ← ix_get hj] at this
      exact this
  have hall : allExc p U (extA p m) = true := by
    unfold allExc
    have e : (fun u => exc u (extA p m)) = excR (offB (extA p m)) := funext fun u => exc_is u _
    rw [e, supsTo_all]
    refine allR_true fun i hi => ?_
    cases ht : headIn U (ixR p.rules i) with
    | false => rfl
    | true =>
      rw [Bool.not_true, Bool.false_or]
      refine Classical.byContradiction fun hx2 => ?_
      have hx2 := Bool.eq_false_iff.2 hx2
      unfold excR at hx2
      simp only [Bool.or_eq_false_iff] at hx2
      obtain ⟨⟨⟨⟨e1, e2⟩, -⟩, e4⟩, e5⟩ := hx2
      have hok := bodyOk_valid hv hi
      rw [supAt_b hv U hi, off_body hv hm hi] at e2
      have hb : bodyT (ixR p.rules i) m = true := by simpa using e2
      have ha : avT T m (ixR p.rules i) = true := by
        unfold avT
        unfold impB at e1
        cases hsm : (ixR p.rules i).sum with
        | false =>
          rw [show (supAt p U i).r = ixR p.rules i from rfl, hsm, if_neg Bool.false_ne_true] at e1
          rw [if_neg Bool.false_ne_true]
          refine allR_true fun j hj => ?_
          have h1 := lit_all hsm hb (ix_mem hj)
          have h2 := List.any_eq_false.1 e1 j (List.mem_range.2 hj)
          unfold intB at h2
          unfold hlT
          unfold litT at h1
          by_cases h0 : 0 < ix (ixR p.rules i).body j
          · rw [if_pos h0] at h1 ⊢
            refine decide_eq_true (hmT _ (of_decide_eq_true h1) fun hU => h2 ?_)
            rw [decide_eq_true h0, decide_eq_true (show ix (ixR p.rules i).body j ∈ (supAt p U i).S from hU)]; rfl
          · rw [if_neg h0] at h1 ⊢; exact h1
        | true =>
          rw [show (supAt p U i).r = ixR p.rules i from rfl, hsm, Bool.true_and] at e5
          have h1 : ¬ wgt (supAt p U i) (fun l => !offB (extA p m) l) (ixR p.rules i).body.length < (ixR p.rules i).bound := of_decide_eq_false e5
          rw [if_pos rfl, decide_eq_true_eq]
          have h2 : wgt (supAt p U i) (fun l => !offB (extA p m) l) (ixR p.rules i).body.length ≤ avW T m (ixR p.rules i) (ixR p.rules i).body.length := wgt_avW (u := supAt p U i) (T := T) (m := m) (g := fun l => !offB (extA p m) l) (fun k hk => (hok.w hsm k (by rw [hok.wlen hsm]; exact hk)).1) (fun y hy hyi hyg => by
            have h3 : litT m y = true := by
              rw [ext_off1 hv hm hi y hy] at hyg
              simpa using hyg
            unfold litT at h3
            unfold hlT
            unfold intB at hyi
            by_cases h0 : 0 < y
            · rw [if_pos h0] at h3 ⊢
              refine decide_eq_true (hmT _ (of_decide_eq_true h3) fun hU => ?_)
              rw [decide_eq_true h0, decide_eq_true (show y ∈ (supAt p U i).S from hU)] at hyi
              cases hyi
            · rw [if_neg h0] at h3 ⊢; exact h3) (ixR p.rules i).body.length (Nat.le_refl _)
          omega
      obtain ⟨c1, c2⟩ := hc i hi ha
      obtain ⟨j, hj, hjU⟩ := List.any_eq_true.1 ht
      have hjU := of_decide_eq_true hjU
      have hjh := ix_mem (List.mem_range.1 hj)
      cases hch : (ixR p.rules i).choice with
      | true => exact hUT _ hjU (c1 hch _ hjh (hsub _ hjU))
      | false =>
        obtain ⟨y, hy, hyT⟩ := c2 hch
        rw [oth_any, show (supAt p U i).r = ixR p.rules i from rfl, hch, Bool.not_false, Bool.true_and] at e4
        have h1 := List.any_eq_false.1 e4 y hy
        refine h1 ?_
        rw [ext_off3 hv hm hi y hy, decide_eq_true (hT y hyT), Bool.and_true]
        have : y ∉ (supAt p U i).S := fun hU => hUT y hU hyT
        simp [this]
  have : unfB p (extA p m) U = true := by
    unfold unfB
    rw [decide_eq_true hv, hset, hall]; rfl
  rw [hu] at this; cases this
end Go.Proofs.YtjodocheiejkeaaGreatDoor
namespace Go.Proofs.YtjodocheiejkeaaGreatDoor
open Go.RowKit
theorem sub_next : ∀ (b s t : Nat), s &&& b = s → t &&& b = t → s < t → s ≤ (t - 1) &&& b := by
  intro b
  induction b using Nat.strongRecOn with
  | ind b ih =>
    intro s t hs ht hlt
    by_cases hb : b = 0
    · subst hb
      rw [Nat.and_zero] at hs ht
      omega
    have h2 : ∀ x : Nat, x = 2 * (x / 2) + x % 2 := fun x => by omega
    have hdiv : ∀ x y : Nat, (x &&& y) / 2 = x / 2 &&& y / 2 := fun x y => Nat.and_div_two
    have hmod : ∀ x y : Nat, (x &&& y) % 2 = if x % 2 = 1 ∧ y % 2 = 1 then 1 else 0 := fun x y => by
      have h := Nat.and_mod_two_eq_one (a := x) (b := y)
      split
      · rename_i h1; exact h.2 h1
      · rename_i h1
        have := mt h.1 h1
        omega
    have hs2 : s / 2 &&& b / 2 = s / 2 := by rw [← hdiv, hs]
    have ht2 : t / 2 &&& b / 2 = t / 2 := by rw [← hdiv, ht]
    have hs3 := hmod s b
    have ht3 := hmod t b
    have hr3 := hmod (t - 1) b
    have hr2 := hdiv (t - 1) b
    rw [hs] at hs3
    rw [ht] at ht3
    generalize (t - 1) &&& b = R at *
    by_cases hd : t % 2 = 1
    · have e : (t - 1) / 2 = t / 2 := by omega
      rw [e, ht2] at hr2
      omega
    · have e : (t - 1) / 2 = t / 2 - 1 := by omega
      rw [e] at hr2
      by_cases hl : s / 2 < t / 2
      · have := ih (b / 2) (by omega) (s / 2) (t / 2) hs2 ht2 hl
        rw [← hr2] at this
        have hr1 : (t - 1) % 2 = 1 := by omega
        rw [hr1] at hr3
        by_cases hc : b % 2 = 1
        · simp [hc] at hr3; omega
        · simp [hc] at hr3 hs3; omega
      · omega
theorem subL_memN {bits n : Nat} {x : Int} : x ∈ subL bits n ↔ ∃ j : Nat, j < n ∧ x = (j : Int) + 1 ∧ Nat.testBit bits j = true := by
  induction n with
  | zero => simp [subL]
  | succ n ih =>
    unfold subL
    rw [bitAt_nat]
    constructor
    · intro h
      split at h
      · rename_i hb
        rcases List.mem_append.1 h with h | h
        · obtain ⟨j, h1, h2⟩ := ih.1 h
          exact ⟨j, by omega, h2⟩
        · exact ⟨n, by omega, by simpa using h, hb⟩
      · obtain ⟨j, h1, h2⟩ := ih.1 h
        exact ⟨j, by omega, h2⟩
    · rintro ⟨j, h1, h2, h3⟩
      by_cases hj : j = n
      · subst hj
        rw [if_pos h3]
        exact List.mem_append.2 (.inr (by simpa using h2))
      · have := ih.2 ⟨j, by omega, h2, h3⟩
        split
        · exact List.mem_append.2 (.inl this)
        · exact this
theorem subL_sub {s bits n : Nat} (h : s &&& bits = s) : ∀ x ∈ subL s n, x ∈ subL bits n := fun x hx => by
  obtain ⟨j, h1, h2, h3⟩ := subL_memN.1 hx
  refine subL_memN.2 ⟨j, h1, h2, ?_⟩
  rw [← h, Nat.testBit_and, Bool.and_eq_true] at h3
  exact h3.2
theorem sorted_same : ∀ {l r : List Int}, l.Pairwise (· < ·) → r.Pairwise (· < ·) → (∀ x, x ∈ l ↔ x ∈ r) → l = r
  | [], [], _, _, _ => rfl
  | [], y :: r, _, _, h => by have := (h y).2 (by simp); cases this
  | x :: l, [], _, _, h => by have := (h x).1 (by simp); cases this
  | x :: l, y :: r, hl, hr, h => by
    rw [List.pairwise_cons] at hl hr
    have hxy : x = y := by
      rcases List.mem_cons.1 ((h x).1 (by simp)) with e | h1
      · exact e
      · rcases List.mem_cons.1 ((h y).2 (by simp)) with e | h2
        · exact e.symm
        · have a1 := hr.1 _ h1
          have a2 := hl.1 _ h2
          omega
    subst hxy
    have := sorted_same hl.2 hr.2 (fun z => by
      constructor
      · intro hz
        rcases List.mem_cons.1 ((h z).1 (by simp [hz])) with e | h1
        · have := hl.1 _ hz; omega
        · exact h1
      · intro hz
        rcases List.mem_cons.1 ((h z).2 (by simp [hz])) with e | h1
        · have := hr.1 _ hz; omega
        · exact h1)
    rw [this]
theorem sub_mask {bits n : Nat} {U : List Int} (hU : U.Pairwise (· < ·)) (hs : ∀ x ∈ U, x ∈ subL bits n) (hne : U ≠ []) (_hb : bits < 2 ^ n) : ∃ s : Nat, 0 < s ∧ s &&& bits = s ∧ U = subL s n := by
  obtain ⟨s, hs1, hs2⟩ := bits_of (fun j => decide (((j : Int) + 1) ∈ U)) n
  have hm : U = subL s n := by
    refine sorted_same hU (subL_sorted _ _) fun x => ?_
    rw [subL_memN]
    constructor
    · intro hx
      obtain ⟨j, h1, h2, -⟩ := subL_memN.1 (hs x hx)
      refine ⟨j, h1, h2, ?_⟩
      rw [← bitAt_nat, hs2 j h1]
      exact decide_eq_true (h2 ▸ hx)
    · rintro ⟨j, h1, h2, h3⟩
      rw [← bitAt_nat, hs2 j h1] at h3
      rw [h2]
      exact of_decide_eq_true h3
  refine ⟨s, ?_, ?_, hm⟩
  · refine Nat.pos_of_ne_zero fun e => ?_
    subst e
    obtain ⟨y, hy⟩ := List.exists_mem_of_ne_nil _ hne
    rw [hm] at hy
    obtain ⟨j, -, -, h3⟩ := subL_memN.1 hy
    simp at h3
  · refine Nat.eq_of_testBit_eq fun j => ?_
    rw [Nat.testBit_and]
    by_cases hj : j < n
    · cases h : Nat.testBit s j with
      | false => rfl
      | true =>
        have := hs ((j : Int) + 1) (by rw [hm]; exact subL_memN.2 ⟨j, hj, rfl, h⟩)
        obtain ⟨q, -, h2, h3⟩ := subL_memN.1 this
        obtain rfl : q = j := by omega
        rw [h3]; rfl
    · rw [Nat.testBit_lt_two_pow (Nat.lt_of_lt_of_le hs1 (Nat.pow_le_pow_right (by omega) (by omega)))]; rfl
def TryB (p : GP) (n bits s : Nat) (b : Bool) : Prop :=
  (b = true ∧ suppB p (subL bits n) = true ∧ ∀ t : Nat, t &&& bits = t → s < t → unfB p (extA p (subL bits n)) (subL t n) = false) ∨ (b = false ∧ ¬ StabD p (subL bits n))
theorem TryB.start {p : GP} {n bits : Nat} (hv : validE p = 0) : TryB p n bits bits (suppB p (subL bits n)) := by
  cases h : suppB p (subL bits n) with
  | true =>
    refine .inl ⟨rfl, h, fun t h1 h2 => ?_⟩
    have : t ≤ bits := by rw [← h1]; exact Nat.and_le_right
    omega
  | false => exact .inr ⟨rfl, fun hs => by rw [stabD_sup hv hs] at h; cases h⟩
theorem subL_ne {s bits n : Nat} (hs : 0 < s) (hb : bits < 2 ^ n) (h : s &&& bits = s) : ∃ x, x ∈ subL s n := by
  have hlt : s < 2 ^ n := by
    have : s ≤ bits := by rw [← h]; exact Nat.and_le_right
    omega
  obtain ⟨j, hj⟩ := Nat.exists_testBit_of_ne_zero (show s ≠ 0 by omega)
  by_cases hjn : j < n
  · exact ⟨_, subL_memN.2 ⟨j, hjn, rfl, hj⟩⟩
  · rw [Nat.testBit_lt_two_pow (Nat.lt_of_lt_of_le hlt (Nat.pow_le_pow_right (by omega) (by omega)))] at hj
    cases hj
theorem TryB.step {p : GP} {n bits s : Nat} (hv : validE p = 0) (hm : setQ p.n (subL bits n) = true) (hb : bits < 2 ^ n) (hs : 0 < s) (hsb : s &&& bits = s) (h : TryB p n bits s true) :
    TryB p n bits ((s - 1) &&& bits) (!unfB p (extA p (subL bits n)) (subL s n)) := by
  rcases h with ⟨-, h1, h2⟩ | ⟨h, -⟩
  · cases hu : unfB p (extA p (subL bits n)) (subL s n) with
    | true =>
      refine .inr ⟨rfl, fun hst => ?_⟩
      obtain ⟨x, hx⟩ := subL_ne hs hb hsb
      exact stabD_unf hv hm hst hu x hx (subL_sub hsb x hx)
    | false =>
      refine .inl ⟨rfl, h1, fun t ht hlt => ?_⟩
      by_cases h3 : s < t
      · exact h2 t ht h3
      · by_cases h4 : t = s
        · rw [h4]; exact hu
        · have := sub_next bits t s ht hsb (by omega)
          omega
  · cases h
theorem TryB.done {p : GP} {n bits s : Nat} {b : Bool} (hv : validE p = 0) (hm : setQ p.n (subL bits n) = true) (hb : bits < 2 ^ n) (h : TryB p n bits s b) (hs : b = true → s = 0) : b = true ↔ StabD p (subL bits n) := by
  rcases h with ⟨rfl, h1, h2⟩ | ⟨rfl, h1⟩
  · refine ⟨fun _ => stabD_of hv hm h1 fun U h3 h4 h5 => ?_, fun _ => rfl⟩
    obtain ⟨t, h6, h7, rfl⟩ := sub_mask h3 h4 h5 hb
    exact h2 t h7 (by have := hs rfl; omega)
  · exact ⟨fun h => (Bool.false_ne_true h).elim, fun h => absurd h h1⟩
def BitsTo (m : List Int) (i B : Nat) : Prop := ∀ j : Nat, Nat.testBit B j = true ↔ ((j : Int) + 1) ∈ m.take i
theorem BitsTo.zero (m : List Int) : BitsTo m 0 0 := fun j => by simp
theorem BitsTo.next {m : List Int} {i B : Nat} (hB : BitsTo m i B) (hi : i < m.length) {q : Nat} (hq : ix m i = (q : Int) + 1) : BitsTo m (i + 1) (B ||| 2 ^ q) := fun j => by
  have h2 : ((j : Int) + 1) ∈ m.take (i + 1) ↔ ((j : Int) + 1) ∈ m.take i ∨ j = q := by
    rw [List.take_succ_eq_append_getElem hi, List.mem_append, ← ix_get hi, hq, List.mem_singleton]
    constructor
    · rintro (h | h)
      · exact .inl h
      · exact .inr (by omega)
    · rintro (h | h)
      · exact .inl h
      · exact .inr (by omega)
  rw [h2, Nat.testBit_or, Bool.or_eq_true, hB j, Nat.testBit_two_pow, decide_eq_true_eq]
  constructor
  · rintro (h | h)
    · exact .inl h
    · exact .inr h.symm
  · rintro (h | h)
    · exact .inl h
    · exact .inr h.symm
theorem BitsTo.full {k n B : Nat} (hk : k < 2 ^ n) (h : BitsTo (subL k n) (subL k n).length B) : B = k := by
  refine Nat.eq_of_testBit_eq fun j => ?_
  rw [Bool.eq_iff_iff, h j, List.take_length, subL_memN]
  constructor
  · rintro ⟨q, -, h2, h3⟩
    obtain rfl : q = j := by omega
    exact h3
  · intro h3
    refine ⟨j, Nat.lt_of_not_le fun hj => ?_, rfl, h3⟩
    rw [Nat.testBit_lt_two_pow (Nat.lt_of_lt_of_le hk (Nat.pow_le_pow_right (by omega) hj))] at h3
    cases h3
def small27B (p : GP) : Bool := fewB p && decide (p.n ≤ 6) && decide (p.rules.length ≤ 8) && decide (validE p = 0)
set_option maxHeartbeats 4000000 in
set_option maxRecDepth 100000 in
theorem small27_any (v : Value) (p : GP) (w : World) (h : ProgIs w v p) :
    Calls Tryz.prog 13 #[v] w fun e w' => e = .returned (.bool (small27B p)) ∧ Below w.heap.size w w' := by
  have h0 := h
  obtain ⟨vn, vs, vr, vm, rfl, hps⟩ := h
  have hpn := hps.n
  obtain ⟨a1, c1, rfl, -, hl1, -, -⟩ := hps.rules.form
  have hal := bal (Below.refl w.heap.size w) (.cells #[.int .i64 p.n, vn, vs, .slice a1 p.rules.length c1, vm] 27)
  have HB := Lib.hid (Blk.new w [.int .i64 p.n, vn, vs, .slice a1 p.rules.length c1, vm] 27)
  have HP := Lib.hid (h0.below hal)
  unfold InI at hpn
  clear h0 hps
  go_enter Tryz.func13, Tryz.ntmps13
  go_upto_region 1 with fail
  have kx := HB.out.cell
  have hz := HB.out.lt
  have HAL := Lib.hid hal
  clear hal
  generalize w.alloc (.cells #[.int .i64 p.n, vn, vs, .slice a1 p.rules.length c1, vm] 27) = W at *
  have HS : Hid (small27B p = (fewB p && decide (p.n ≤ 6) && decide (p.rules.length ≤ 8) && decide (validE p = 0))) := Lib.hid rfl
  cases hf : fewB p with
  | false =>
    have HFE := Lib.hid hf
    rw [hf] at HS
    have HE := HS.out
    simp only [Bool.false_and] at HE
    have HE := Lib.hid HE
    clear hf
    go_wp2_with (first | (go_at_call 21; (with_reducible refine (few_any _ p _ HP.out).mono ?_); rintro e w1 ⟨h1, hb1⟩; rw [HFE.out] at h1; subst h1; have HB1 := Lib.hid (bon HAL.out hb1); have HP1 := Lib.hid (HP.out.below hb1); have kx1 := (HB.out.below hb1).cell; clear hb1) | (go_at_call 22; (with_reducible refine (valid_any _ p w1 HP1.out).mono ?_); rintro e w2 ⟨rfl, hb2⟩; have HB2 := Lib.hid (bon HB1.out hb2); clear hb2))
    go_ret
    first | exact ⟨rfl, HB2.out⟩ | exact ⟨rfl, HB1.out⟩ | exact ⟨ret_bool HE.out.symm, HB2.out⟩ | exact ⟨ret_bool HE.out.symm, HB1.out⟩
  | true =>
    have HFE := Lib.hid hf
    rw [hf] at HS
    clear hf
    by_cases h6 : p.n ≤ 6
    · by_cases h7 : p.rules.length ≤ 8
      · by_cases hv : validE p = 0
        · have HE := HS.out
          simp only [h6, h7, hv, decide_true, Bool.true_and] at HE
          have HE := Lib.hid HE
          have hve : (validE p == 0) = true := by simp [hv]
          clear hv
          go_wp2_with (first | (go_at_call 21; (with_reducible refine (few_any _ p _ HP.out).mono ?_); rintro e w1 ⟨h1, hb1⟩; rw [HFE.out] at h1; subst h1; have HB1 := Lib.hid (bon HAL.out hb1); have HP1 := Lib.hid (HP.out.below hb1); have kx1 := (HB.out.below hb1).cell; clear hb1) | (go_at_call 22; (with_reducible refine (valid_any _ p w1 HP1.out).mono ?_); rintro e w2 ⟨rfl, hb2⟩; have HB2 := Lib.hid (bon HB1.out hb2); clear hb2))
          go_ret
          first | exact ⟨rfl, HB2.out⟩ | exact ⟨rfl, HB1.out⟩ | exact ⟨ret_bool HE.out.symm, HB2.out⟩ | exact ⟨ret_bool HE.out.symm, HB1.out⟩
        · have HE := HS.out
          simp only [h6, h7, hv, decide_true, decide_false, Bool.and_false] at HE
          have HE := Lib.hid HE
          have hve : (validE p == 0) = false := by simp [hv]
          clear hv
          go_wp2_with (first | (go_at_call 21; (with_reducible refine (few_any _ p _ HP.out).mono ?_); rintro e w1 ⟨h1, hb1⟩; rw [HFE.out] at h1; subst h1; have HB1 := Lib.hid (bon HAL.out hb1); have HP1 := Lib.hid (HP.out.below hb1); have kx1 := (HB.out.below hb1).cell; clear hb1) | (go_at_call 22; (with_reducible refine (valid_any _ p w1 HP1.out).mono ?_); rintro e w2 ⟨rfl, hb2⟩; have HB2 := Lib.hid (bon HB1.out hb2); clear hb2))
          go_ret
          first | exact ⟨rfl, HB2.out⟩ | exact ⟨rfl, HB1.out⟩ | exact ⟨ret_bool HE.out.symm, HB2.out⟩ | exact ⟨ret_bool HE.out.symm, HB1.out⟩
      · have HE := HS.out
        simp only [h6, h7, decide_true, decide_false, Bool.and_false, Bool.false_and] at HE
        have HE := Lib.hid HE
        go_wp2_with (first | (go_at_call 21; (with_reducible refine (few_any _ p _ HP.out).mono ?_); rintro e w1 ⟨h1, hb1⟩; rw [HFE.out] at h1; subst h1; have HB1 := Lib.hid (bon HAL.out hb1); have HP1 := Lib.hid (HP.out.below hb1); have kx1 := (HB.out.below hb1).cell; clear hb1) | (go_at_call 22; (with_reducible refine (valid_any _ p w1 HP1.out).mono ?_); rintro e w2 ⟨rfl, hb2⟩; have HB2 := Lib.hid (bon HB1.out hb2); clear hb2))
        go_ret
        first | exact ⟨rfl, HB2.out⟩ | exact ⟨rfl, HB1.out⟩ | exact ⟨ret_bool HE.out.symm, HB2.out⟩ | exact ⟨ret_bool HE.out.symm, HB1.out⟩
    · have HE := HS.out
      simp only [h6, decide_false, Bool.and_false, Bool.false_and] at HE
      have HE := Lib.hid HE
      go_wp2_with (first | (go_at_call 21; (with_reducible refine (few_any _ p _ HP.out).mono ?_); rintro e w1 ⟨h1, hb1⟩; rw [HFE.out] at h1; subst h1; have HB1 := Lib.hid (bon HAL.out hb1); have HP1 := Lib.hid (HP.out.below hb1); have kx1 := (HB.out.below hb1).cell; clear hb1) | (go_at_call 22; (with_reducible refine (valid_any _ p w1 HP1.out).mono ?_); rintro e w2 ⟨rfl, hb2⟩; have HB2 := Lib.hid (bon HB1.out hb2); clear hb2))
      go_ret
      first | exact ⟨rfl, HB2.out⟩ | exact ⟨rfl, HB1.out⟩ | exact ⟨ret_bool HE.out.symm, HB2.out⟩ | exact ⟨ret_bool HE.out.symm, HB1.out⟩
def aw : List Int := [1, 1, -1, 1, 1, -1, 1]
def cA : PBC := ⟨[-1, 6], [1, 1], 1⟩
def cB : PBC := ⟨[-2, 6], [1, 1], 1⟩
def cC : PBC := ⟨[-1, -2], [1, 1], 1⟩
theorem aw_make1 : makeP loopP aw [1, 2] 1 = (cA, 0) := by kernel_rfl
theorem aw_make2 : makeP loopP aw [1, 2] 2 = (cB, 0) := by kernel_rfl
theorem aw_make3 : makeP disP [0, 1] [1] 1 = (cC, 0) := by kernel_rfl
theorem aw_unf1 : unfB loopP aw [1, 2] = true := by kernel_rfl
theorem aw_unf2 : unfB disP [0, 1] [1] = true := by kernel_rfl
theorem aw_val1 : validC loopP [1, 2] (clauseP [-1, 3]).1 = true := by kernel_rfl
theorem aw_val2 : validC loopP [1, 2] (clauseP [-1]).1 = false := by kernel_rfl
theorem aw_pv1 : pbV cA = true := by kernel_rfl
theorem aw_pv2 : pbV cB = true := by kernel_rfl
theorem aw_pv3 : pbV cC = true := by kernel_rfl
theorem dec1 : Lib.decDigits 1 = [49] := by unfold Lib.decDigits; rfl
theorem dec2 : Lib.decDigits 2 = [50] := by unfold Lib.decDigits; rfl
theorem dec6 : Lib.decDigits 6 = [54] := by unfold Lib.decDigits; rfl
theorem aw_str1 : strT cA = [49, 32, 126, 120, 49, 32, 49, 32, 120, 54, 32, 62, 61, 32, 49] := by simp [strT, headT, itemT, cA, dec1, dec6]
theorem aw_str2 : strT cB = [49, 32, 126, 120, 50, 32, 49, 32, 120, 54, 32, 62, 61, 32, 49] := by simp [strT, headT, itemT, cB, dec1, dec2, dec6]
theorem aw_str3 : strT cC = [49, 32, 126, 120, 49, 32, 49, 32, 126, 120, 50, 32, 62, 61, 32, 49] := by simp [strT, headT, itemT, cC, dec1, dec2]
end Go.Proofs.YtjodocheiejkeaaGreatDoor
