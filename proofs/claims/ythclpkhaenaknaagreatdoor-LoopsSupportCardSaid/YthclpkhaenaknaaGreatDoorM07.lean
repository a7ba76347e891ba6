/- My texts Lp8, Lp9, Lp10, Pb0, Pb1, Lv4, merged. -/
import Derived.Test.YthclpkhaenaknaaGreatDoorM06
import Derived.Shelf.Abstract
import Derived.Test.YthclpkhaenaknaaGreatDoorM00
import Derived.Test.YthclpkhaenaknaaGreatDoorM04
import Derived.Deep.DeepCutAuto
import Derived.RangeFuncNested
import Derived.RangeFuncBound
import Derived.RangeFuncCalls
import Derived.RangeFuncLeaves
import Derived.WalkKit
import Derived.OwnWalkIn
import Derived.TacticsInMore
import Derived.LoopNIn
import Derived.LoopIn
import Derived.Stop.RegionWithIn

/- loops: the iterator supports$1: its contract. -/
namespace Go.Proofs.YthclpkhaenaknaaGreatDoor
open Go.RowKit

attribute [local go_sem] Oper.semAt_some

theorem yieldEnd {e : Ending} {A B : Prop} (h : (e = .returned (.bool true) ∧ A) ∨ (e = .returned (.bool false) ∧ B)) : ∃ b, e = .returned (.bool b) ∧ (b = true → A) ∧ (b = false → B) := by
  rcases h with ⟨rfl, h⟩ | ⟨rfl, h⟩
  · exact ⟨true, rfl, fun _ => h, fun e => (Bool.noConfusion e)⟩
  · exact ⟨false, rfl, (fun e => Bool.noConfusion e), fun _ => h⟩

def SupSlots (wi : World) (p : GP) (S : List Int) (n0 : Nat) (W0 : World) (rb : Nat) (J : List (SupV wi) → World → Prop) (i : Value) (wr : World) : Prop :=
  ∃ (k : Nat) (pre : List (SupV wi)), k ≤ p.rules.length ∧ i = .int .i64 k ∧ sus pre = supsTo p S k ∧ J pre wr ∧ Lim n0 [rb] W0 wr

set_option maxHeartbeats 4000000 in
set_option maxRecDepth 100000 in
theorem sups_stops (p : GP) (S : List Int) (wi w0 : World) (vn vs vr vm vset : Value) (hP : ProgIs wi (.agg #[.int .i64 p.n, vn, vs, vr, vm]) p) (hS : Ints wi vset S) (rb pb sb : Nat)
    (hst : SupSt wi w0 p S pb sb vn vs vr vm vset) (hrb : wi.heap.size ≤ rb) (hne : pb ≠ rb ∧ sb ≠ rb) (hok : ∀ k, k < p.rules.length → SUok (supAt p S k)) (n : Nat) (hn : 1 ≤ n) :
    SeqStopsK Fence.wide n Tryz.prog 67 #[.pointer (some ⟨pb, 0, none⟩), .pointer (some ⟨sb, 0, none⟩)] (fun x : SupV wi => #[x.1.1]) (Lim w0.heap.size [rb])
      (fun xs => sus xs = supsTo p S p.rules.length) (fun pre => ∃ k, k ≤ p.rules.length ∧ sus pre = supsTo p S k) p.rules.length w0 := by
  intro l J Jx W hW hJ hJx hY h0
  obtain ⟨vn', vs', vr', vm', e, hPS⟩ := hP
  simp only [Value.agg.injEq, Array.mk.injEq, List.cons.injEq, and_true] at e
  obtain ⟨-, rfl, rfl, rfl, rfl⟩ := e
  obtain ⟨a1, c1, rfl, -, hl1, -, hcell⟩ := hPS.rules.form
  have hP : Hid (ProgIs wi (.agg #[.int .i64 p.n, vn, vs, .slice a1 p.rules.length c1, vm]) p) := Lib.hid ⟨_, _, _, _, rfl, hPS⟩
  obtain ⟨a4, c4, rfl, -, hl4, -, -⟩ := hS.form
  have HS := Lib.hid hS
  have HST := Lib.hid hst
  have HOK := Lib.hid hok
  have HY := Lib.hid hY
  have HJ := Lib.hid hJ
  have HJX := Lib.hid hJx
  have H0 := Lib.hid h0
  have HW := Lib.hid hW
  have HCELL := Lib.hid hcell
  have HPS := Lib.hid hPS
  have hpbl := hst.pb.lt
  have hsbl := hst.sb.lt
  have hN := hst.below.size
  have HSW : Hid (SupSt wi W p S pb sb vn vs (.slice a1 p.rules.length c1) vm (.slice a4 S.length c4)) := Lib.hid (hst.on hW)
  have kp := HSW.out.pb.cell
  have hzW := hW.size
  clear hS hst hok hY hJ hJx h0 hW hcell hPS
  refine callsIn_of_wp Tryz.func67 rfl trivial ?_ rfl
  simp only [Tryz.ntmps67, List.size_toArray, List.length_cons, List.length_nil, Nat.reduceAdd, Nat.reduceSub, Array.replicate_succ, Array.replicate_zero, List.push_toArray, List.append_toArray, List.nil_append, List.cons_append]
  gi_wp2
  clear kp
  gi_loopw [9] (fun i wr => SupSlots wi p S w0.heap.size W rb J i wr) (fun i _ => p.rules.length - (intOf i).toNat)
  case atStart => exact ⟨0, [], Nat.zero_le _, rfl, rfl, H0.out, Lim.refl _ _ _⟩
  case round =>
    obtain ⟨k, pre, hk, rfl, hpre, hj, hlim⟩ := hrel
    have HJR := Lib.hid hj
    have HPRE := Lib.hid hpre
    have HLIM := Lib.hid hlim
    have HSR : Hid (SupSt wi wr p S pb sb vn vs (.slice a1 p.rules.length c1) vm (.slice a4 S.length c4)) := Lib.hid (HSW.out.lim hlim (by omega) hrb (by omega) (by omega))
    clear hj hpre hlim
    by_cases hlt : k < p.rules.length
    · obtain ⟨b, off, rfl, hbl, hc⟩ := HCELL.out (by omega)
      obtain ⟨vh, vb, vw, ⟨k0, k1, k2, k3, k4, k5⟩, hsl⟩ := hc k hlt
      have hbw := HSR.out.below
      have hk0 := (bcell hbw _ _ hbl).trans k0
      have hk1 := (bcell hbw _ _ hbl).trans k1
      have hk2 := (bcell hbw _ _ hbl).trans k2
      have hk3 := (bcell hbw _ _ hbl).trans k3
      have hk4 := (bcell hbw _ _ hbl).trans k4
      have hk5 := (bcell hbw _ _ hbl).trans k5
      have HSL := Lib.hid hsl
      obtain ⟨ah, ch, rfl, -, hlh, -, -⟩ := hsl.head.form
      obtain ⟨ab, cb, rfl, -, hlb, -, -⟩ := hsl.body.form
      obtain ⟨aw, cw, rfl, -, hlw, -, -⟩ := hsl.wts.form
      clear hc k0 k1 k2 k3 k4 k5 hsl hbw
      have hal := bal (Below.refl wr.heap.size wr) (.cells #[.bool (ixR p.rules k).choice, .slice ah (ixR p.rules k).head.length ch, .bool (ixR p.rules k).sum, .int .i64 (ixR p.rules k).bound, .slice ab (ixR p.rules k).body.length cb, .slice aw (ixR p.rules k).w.length cw] 60)
      have hbr := Blk.new wr [.bool (ixR p.rules k).choice, .slice ah (ixR p.rules k).head.length ch, .bool (ixR p.rules k).sum, .int .i64 (ixR p.rules k).bound, .slice ab (ixR p.rules k).body.length cb, .slice aw (ixR p.rules k).w.length cw] 60
      have hj1 := (AbidesFrom.below HJ.out HJR.out hal)
      have hs1 := HSR.out.on hal
      have hl1' : Lim w0.heap.size [rb] W (wr.alloc (.cells #[.bool (ixR p.rules k).choice, .slice ah (ixR p.rules k).head.length ch, .bool (ixR p.rules k).sum, .int .i64 (ixR p.rules k).bound, .slice ab (ixR p.rules k).body.length cb, .slice aw (ixR p.rules k).w.length cw] 60)) := HLIM.out.trans (.of_below hal (Nat.le_trans hzW HLIM.out.size))
      gi_wp2_with fail
      generalize wr.alloc (.cells #[.bool (ixR p.rules k).choice, .slice ah (ixR p.rules k).head.length ch, .bool (ixR p.rules k).sum, .int .i64 (ixR p.rules k).bound, .slice ab (ixR p.rules k).body.length cb, .slice aw (ixR p.rules k).w.length cw] 60) = W1 at *
      have HBR := Lib.hid hbr
      have HS1 := Lib.hid hs1
      have HJ1 := Lib.hid hj1
      have HL1 := Lib.hid hl1'
      have hzr := hal.size
      have hzl := HLIM.out.size
      clear hal hbr hs1 hj1 hl1' hk0 hk1 hk2 hk3 hk4 hk5
      have hdr : Below W1.heap.size W1 W1.drew := (Below.refl _ _).drew
      have HDR := Lib.hid hdr
      have HSD := Lib.hid (HS1.out.on hdr)
      have hk1 := HBR.out.cell
      have hp1 := HS1.out.pb.cell
      have hq1 := HS1.out.sb.cell
      have HCA : Hid (∀ W2, Below W1.heap.size W1 W2 → Calls Tryz.prog 44 #[.slice ah (ixR p.rules k).head.length ch, .func (.func 68) #[] #[.pointer (some ⟨sb, 0, none⟩)]] W2 fun e w' => e = .returned (.bool (headIn S (ixR p.rules k))) ∧ Below W2.heap.size W2 w') :=
        Lib.hid (fun W2 h2 => ctn_sup _ (ixR p.rules k).head W2 (HSL.out.head.below (HS1.out.on h2).below) (fun j => decide (ix (ixR p.rules k).head j ∈ S)) _ (fun w' hb' j _ => (sup11_any S sb _ _ w' (((HS1.out.on h2).on hb').sb) (HS.out.below ((HS1.out.on h2).on hb').below)).mono fun e w'' ⟨e1, e2⟩ => ⟨e1, e2 ▸ Below.refl _ _⟩))
      have hki : InI (k : Int) := by unfold InI; omega
      have HLEN : Hid (pre.length < p.rules.length) := Lib.hid (by
        have h1 := supsTo_len p S k
        rw [← HPRE.out, sus_len] at h1
        omega)
      have HBI : Hid (InI (bodyI p k)) := Lib.hid (by have h1 : 1 ≤ bodyI p k ∧ bodyI p k ≤ 1000000 := (HOK.out k hlt).b; unfold InI; omega)
      have HX : Hid (SupIs wi (.agg #[.bool (ixR p.rules k).choice, .slice ah (ixR p.rules k).head.length ch, .bool (ixR p.rules k).sum, .int .i64 (ixR p.rules k).bound, .slice ab (ixR p.rules k).body.length cb, .slice aw (ixR p.rules k).w.length cw, .int .i64 (bodyI p k), .slice a4 S.length c4]) (supAt p S k)) := Lib.hid ⟨_, _, _, _, rfl, HSL.out, HS.out, HBI.out⟩
      cases hh : headIn S (ixR p.rules k) with
      | false =>
        have HST2 : Hid (supsTo p S (k + 1) = supsTo p S k) := Lib.hid (by rw [supsTo, hh]; rfl)
        rw [hh] at HCA
        clear hh hk1 hp1 hq1
        have kx := fun (e : Ext W1) (o : Nat) => (bcell e.below _ o HBR.out.lt).trans (HBR.out.cell o)
        refine wpIn_wide.2 ?_
        refine wp_region_ext (by kernel_rfl) (by kernel_rfl) ?_
        repeat (go_big_quiet_step ((go_at_call 44; exact Calls.ext_of (HCA.out _ (Ext.below _)))))
        refine wpQuiet_nil ?_
        intro w9 hw'
        obtain ⟨e9, he9⟩ := hw'
        have hb9 := e9.below
        rw [← he9] at hb9
        clear he9 e9
        try dsimp only
        have HB9 := Lib.hid hb9
        clear hb9
        gi_wp2
        first
          | (go_roundw
             case rel => (exact ⟨k + 1, pre, by omega, by go_num, by rw [HPRE.out, HST2.out], AbidesFrom.below HJ.out HJ1.out HB9.out, HL1.out.trans (.of_below HB9.out (by omega))⟩)
             case measure => (simp [intOf]; omega))
          | (refine ⟨?_, ?_⟩
             · (exact ⟨k + 1, pre, by omega, by go_num, by rw [HPRE.out, HST2.out], AbidesFrom.below HJ.out HJ1.out HB9.out, HL1.out.trans (.of_below HB9.out (by omega))⟩)
             · (simp [intOf]; omega))
      | true =>
        have HST2 : Hid (supsTo p S (k + 1) = supsTo p S k ++ [supAt p S k]) := Lib.hid (by rw [supsTo, hh]; rfl)
        have HC := Lib.hid (HCA.out _ hdr)
        rw [hh] at HC
        clear hh
        gi_region_with (first
          | (refine ⟨trivial, ?_⟩; gi_at_call 44; refine (callsIn_wide.2 HC.out).mono ?_; rintro e w1 ⟨rfl, hb1⟩; have HSE := Lib.hid (HSD.out.on hb1); have kp1 := HSE.out.pb.cell; have ks1 := HSE.out.sb.cell; have kr1 := (HBR.out.drew.below hb1).cell; have HB1 := Lib.hid hb1; clear hb1)
          | (refine ⟨trivial, ?_⟩; gi_at_call 69; refine (callsIn_wide.2 (body_any _ p _ (hP.out.below HSE.out.below) (k : Int) hki)).mono ?_; rintro e w2 ⟨rfl, hb2⟩; have HSF := Lib.hid (HSE.out.on hb2); have ks2 := HSF.out.sb.cell; have kr2 := ((HBR.out.drew.below HB1.out).below hb2).cell; have HB2 := Lib.hid (HDR.out.trans (bon HB1.out hb2)); have HJ2 := Lib.hid (AbidesFrom.below HJ.out HJ1.out HB2.out); clear hb2; obtain ⟨fn, tmps, assign, body, hy, hR⟩ := HY.out pre ⟨(_, supAt p S k), HX.out, HOK.out k hlt⟩ w2 HJ2.out HLEN.out; dsimp only at hy)
          | (refine hR.mono ?_; rintro e W3 h3; obtain ⟨bb, rfl, hbt, hbf⟩ := yieldEnd h3; have HBT := Lib.hid hbt; have HBF := Lib.hid hbf; clear hbt hbf h3))
        all_goals (cases bb with
          | false =>
            gi_wp2
            refine bodyPost_ret (results_none rfl _ _ _) rfl ?_
            exact ⟨⟨_, rfl⟩, .inr ⟨pre ++ [_], ⟨k + 1, hlt, by rw [sus_snoc, HPRE.out, HST2.out]⟩, HBF.out (by first | exact rfl | exact trivial)⟩⟩
          | true =>
            gi_wp2
            first
              | (go_roundw
                 case rel => (exact ⟨k + 1, pre ++ [_], hlt, by go_num, by rw [sus_snoc, HPRE.out, HST2.out], (HBT.out (by first | exact rfl | exact trivial)).1, (HL1.out.trans (.of_below HB2.out (by omega))).trans (HBT.out (by first | exact rfl | exact trivial)).2⟩)
                 case measure => (simp [intOf]; omega))
              | (refine ⟨?_, ?_⟩
                 · (exact ⟨k + 1, pre ++ [_], hlt, by go_num, by rw [sus_snoc, HPRE.out, HST2.out], (HBT.out (by first | exact rfl | exact trivial)).1, (HL1.out.trans (.of_below HB2.out (by omega))).trans (HBT.out (by first | exact rfl | exact trivial)).2⟩)
                 · (simp [intOf]; omega)))
    · gi_wp2
      go_end0
      obtain rfl : k = p.rules.length := by omega
      exact ⟨⟨_, rfl⟩, .inl ⟨pre, HPRE.out, HJR.out⟩⟩

end Go.Proofs.YthclpkhaenaknaaGreatDoor

/- loops: all: a range over the supports. -/
namespace Go.Proofs.YthclpkhaenaknaaGreatDoor
open Go.RowKit Go.Shelf
attribute [local go_sem] Oper.semAt_some

set_option maxHeartbeats 1000000 in
theorem supports_any (n : Int) (vn vs vm : Value) (r4 a4 : Option Addr) (n3 c3 n4 c4 : Nat) (w : World) :
    Calls Tryz.prog 29 #[.agg #[.int .i64 n, vn, vs, (.slice r4 n3 c3), vm], (.slice a4 n4 c4)] w fun e w' => e = .returned (.func (.func 67) #[] #[.pointer (some ⟨w.heap.size, 0, none⟩), .pointer (some ⟨w.heap.size + 1, 0, none⟩)]) ∧
      Below w.heap.size w w' ∧ Blk w' w.heap.size [.int .i64 n, vn, vs, (.slice r4 n3 c3), vm] 27 ∧ Blk w' (w.heap.size + 1) [(.slice a4 n4 c4)] 23 := by
  have h1 := Blk.new w [.int .i64 n, vn, vs, (.slice r4 n3 c3), vm] 27
  have hb : Below w.heap.size w ((w.alloc (.cells #[.int .i64 n, vn, vs, (.slice r4 n3 c3), vm] 27)).alloc (.cells #[(.slice a4 n4 c4)] 23)) := bal (bal (Below.refl _ _) _) _
  have h2 : Blk ((w.alloc (.cells #[.int .i64 n, vn, vs, (.slice r4 n3 c3), vm] 27)).alloc (.cells #[(.slice a4 n4 c4)] 23)) w.heap.size [.int .i64 n, vn, vs, (.slice r4 n3 c3), vm] 27 := h1.alloc _
  have h3 := Blk.new2 w (.cells #[.int .i64 n, vn, vs, (.slice r4 n3 c3), vm] 27) [(.slice a4 n4 c4)] 23
  clear h1
  have H2 := Lib.hid h2
  have H3 := Lib.hid h3
  have HB := Lib.hid hb
  clear h2 h3 hb
  go_enter Tryz.func29, Tryz.ntmps29
  go_wp2
  go_ret
  exact ⟨rfl, HB.out, H2.out, H3.out⟩

/-- Every support of the set is excluded. -/
def allExc (p : GP) (S a : List Int) : Bool := (supsTo p S p.rules.length).all fun u => exc u a

theorem blk_own {β : Type} (b : Nat) (c : List Value) (t : TypeId) : Own (fun (_ : β) W => Blk W b c t) := fun s X Y row hs hg hrow => by
  have hne : some b ≠ row := fun e' => by
    obtain ⟨_, ho, hc⟩ := hrow b e'.symm
    rw [show X.heap[b]? = _ from hs] at ho
    cases ho
    cases hc
  exact hs.same (hg.block b hs.lt hne)

theorem keeps_below {B : Nat} {W W' : World} (h : Below W.heap.size W W') : KeepsFrom B W W' := ⟨h.size, fun k _ _ hk _ => (h.block k (Array.getElem?_eq_some_iff.1 hk).1).trans hk⟩

theorem SupV.form {w : World} (x : SupV w) : ∃ vh vb vw vs, x.1.1 = .agg #[.bool x.1.2.r.choice, vh, .bool x.1.2.r.sum, .int .i64 x.1.2.r.bound, vb, vw, .int .i64 x.1.2.b, vs] ∧ (∃ a n c, vh = .slice a n c) ∧ (∃ a n c, vb = .slice a n c) ∧ (∃ a n c, vw = .slice a n c) ∧ ∃ a n c, vs = .slice a n c := by
  obtain ⟨vh, vb, vw, vs, e, h1, h2, h3⟩ := x.2.1
  obtain ⟨⟨_, _, e1, -⟩, -⟩ := h1.head
  obtain ⟨⟨_, _, e2, -⟩, -⟩ := h1.body
  obtain ⟨⟨_, _, e3, -⟩, -⟩ := h1.wts
  obtain ⟨⟨_, _, e4, -⟩, -⟩ := h2
  exact ⟨_, _, _, _, e, ⟨_, _, _, e1⟩, ⟨_, _, _, e2⟩, ⟨_, _, _, e3⟩, ⟨_, _, _, e4⟩⟩

theorem sus_mem {w : World} {l : List (SupV w)} {p : GP} {S a : List Int} (h : sus l = supsTo p S p.rules.length) : (∀ u ∈ sus l, exc u a = true) → allExc p S a = true := by
  intro h2
  unfold allExc
  rw [← h, List.all_eq_true]
  exact h2

theorem supsTo_sub (p : GP) (S : List Int) {u : SU} : ∀ (n k : Nat), k ≤ n → u ∈ supsTo p S k → u ∈ supsTo p S n
  | 0, k, hk, h => by obtain rfl : k = 0 := by omega
                      exact h
  | n + 1, k, hk, h => by
    by_cases e : k = n + 1
    · subst e; exact h
    · have := supsTo_sub p S n k (by omega) h
      unfold supsTo
      split
      · exact List.mem_append.2 (.inl this)
      · exact this

theorem sus_some {w : World} {l : List (SupV w)} {p : GP} {S a : List Int} {k : Nat} (hk : k ≤ p.rules.length) (h : sus l = supsTo p S k) {u : SU} (hu : u ∈ sus l) (he : exc u a = false) : allExc p S a = false := by
  unfold allExc
  rw [List.all_eq_false]
  exact ⟨u, supsTo_sub p S _ k hk (h ▸ hu), by simp [he]⟩

set_option maxHeartbeats 4000000 in
set_option maxRecDepth 100000 in
theorem all_any (p : GP) (S a : List Int) (ab : Nat) (v vset : Value) (w : World) (hP : ProgIs w v p) (hS : Ints w vset S) (ha : InU w ab a) (hok : ∀ k, k < p.rules.length → SUok (supAt p S k)) :
    Calls Tryz.prog 37 #[v, vset, .func (.func 38) #[] #[.pointer (some ⟨ab, 0, none⟩)]] w fun e w' => e = .returned (.bool (allExc p S a)) ∧ Below w.heap.size w w' := by
  have hP0 := Lib.hid hP
  obtain ⟨vn, vs, vr, vm, rfl, hPS⟩ := hP
  obtain ⟨a1, c1, rfl, -, hl1, -, -⟩ := hPS.rules.form
  obtain ⟨a4, c4, rfl, -, hl4, -, -⟩ := hS.form
  have HS := Lib.hid hS
  have HA := Lib.hid ha
  have HOK := Lib.hid hok
  clear hPS hS ha hok
  refine (callsIn_wide (n := 6)).1 ?_
  refine callsIn_of_wp_marks Tryz.func37 rfl trivial ?_ rfl
  simp only [Tryz.ntmps37, List.size_toArray, List.length_cons, List.length_nil, Nat.reduceAdd, Nat.reduceSub, Array.replicate_succ, Array.replicate_zero, List.push_toArray, List.append_toArray, List.nil_append, List.cons_append]
  have bI := (Blk.new2 w (.cells #[.int .i64 p.n, vn, vs, .slice a1 p.rules.length c1, vm] 27) [.func (.func 38) #[] #[.pointer (some ⟨ab, 0, none⟩)]] 77).alloc (.cells #[.bool false] 4)
  have bR := Blk.new ((w.alloc (.cells #[.int .i64 p.n, vn, vs, .slice a1 p.rules.length c1, vm] 27)).alloc (.cells #[.func (.func 38) #[] #[.pointer (some ⟨ab, 0, none⟩)]] 77)) [.bool false] 4
  have hb0 : Below w.heap.size w (((w.alloc (.cells #[.int .i64 p.n, vn, vs, .slice a1 p.rules.length c1, vm] 27)).alloc (.cells #[.func (.func 38) #[] #[.pointer (some ⟨ab, 0, none⟩)]] 77)).alloc (.cells #[.bool false] 4)) := bal (bal (bal (Below.refl _ _) _) _) _
  have BI := Lib.hid bI
  have BR := Lib.hid bR
  have HB0 := Lib.hid hb0
  clear bI bR hb0
  gi_wp2_with (refine ⟨trivial, ?_⟩; gi_at_call 29; refine (callsIn_wide.2 (supports_any _ _ _ _ _ _ _ _ _ _ _)).mono ?_; rintro e w1 ⟨rfl, hb1, hp1, hs1⟩)
  have bI := BI.out.below hb1
  have bR := BR.out.below hb1
  have hbw : Below w.heap.size w w1 := bon HB0.out hb1
  simp only [World.size_alloc] at hp1 hs1 bR
  clear hb1 BI BR HB0
  have hz := hs1.lt
  refine wpIn_rangeFunc_ownH rfl (by omega) (gf := 67) (lb := #[.pointer (some ⟨w.heap.size + 1 + 1 + 1, 0, none⟩), .pointer (some ⟨w.heap.size + 1 + 1 + 1 + 1, 0, none⟩)]) rfl trivial (enters_of Tryz.func67 (by kernel_rfl) rfl)
    (sups_stops p S w w1 vn vs (.slice a1 p.rules.length c1) vm (.slice a4 S.length c4) hP0.out HS.out (w.heap.size + 1 + 1) _ _ ⟨hbw, hp1, hs1⟩ (by omega) ⟨by omega, by omega⟩ HOK.out 5 (by omega))
    (fun h k => h.trans k) (fun W l o o' hl h hc hw => .of_below (belowK_b (w := w1) (Nat.le_refl _) W l o o' hl h hc hw) (Nat.le_refl _)) (Below.refl _ _) (fun _ => rfl)
    (fun pre W => (∀ u ∈ sus pre, exc u a = true) ∧ Below w1.heap.size w1 W)
    (fun c pre W => (Blk W (w.heap.size + 1 + 1) [.bool false] 4 ∧ (c = .ret ∧ ∃ u ∈ sus pre, exc u a = false)) ∧ Below w.heap.size w W)
    (OwnFrom.and (ownFrom_pure _ _) (ownFrom_below (Nat.le_refl _) (Nat.le_refl _)))
    (fun c => OwnFrom.and (OwnFrom.and (Own.from (blk_own _ _ _) _) (ownFrom_pure _ _)) (ownFrom_below (Nat.le_refl _) (by omega)))
    ⟨by intro u hu; simp [sus] at hu, Below.refl _ _⟩
    (fun x a' W => ∃ Bx vh vb vw vs9, x.1.1 = .agg #[.bool x.1.2.r.choice, vh, .bool x.1.2.r.sum, .int .i64 x.1.2.r.bound, vb, vw, .int .i64 x.1.2.b, vs9] ∧ Blk W Bx [.bool x.1.2.r.choice, vh, .bool x.1.2.r.sum, .int .i64 x.1.2.r.bound, vb, vw, .int .i64 x.1.2.b, vs9] 68 ∧ a' = { tmps := #[.agg #[.int .i64 p.n, vn, vs, .slice a1 p.rules.length c1, vm], .slice a4 S.length c4, .func (.func 38) #[] #[.pointer (some ⟨ab, 0, none⟩)], .pointer (some ⟨w.heap.size, 0, none⟩), undef, .pointer (some ⟨w.heap.size + 1, 0, none⟩), .pointer (some ⟨w.heap.size + 1 + 1, 0, none⟩), .pointer (some ⟨Bx, 0, none⟩), .agg #[.int .i64 p.n, vn, vs, .slice a1 p.rules.length c1, vm], .slice a4 S.length c4, .func (.func 67) #[] #[.pointer (some ⟨w.heap.size + 1 + 1 + 1, 0, none⟩), .pointer (some ⟨w.heap.size + 1 + 1 + 1 + 1, 0, none⟩)], x.1.1, undef, undef, undef, undef], defers := [] })
    (fun x a' _ X Y row hs hg hr => by obtain ⟨Bx, vh, vb, vw, vs9, h2, h3, h4⟩ := hs; exact ⟨Bx, vh, vb, vw, vs9, h2, blk_own Bx _ _ () X Y row h3 hg (fun r e => (hr r e).2), h4⟩)
    ?assign ?body ?done ?stop
  case assign =>
    rintro l pre x W K ⟨hall, hB⟩ hK
    obtain ⟨vh, vb, vw, vs9, hx, ⟨x1, x2, x3, rfl⟩, ⟨x4, x5, x6, rfl⟩, ⟨x7, x8, x9, rfl⟩, ⟨y1, y2, y3, rfl⟩⟩ := x.form
    have HX := Lib.hid hx
    have hbn := Blk.new W [.bool x.1.2.r.choice, (.slice x1 x2 x3), .bool x.1.2.r.sum, .int .i64 x.1.2.r.bound, (.slice x4 x5 x6), (.slice x7 x8 x9), .int .i64 x.1.2.b, (.slice y1 y2 y3)] 68
    have HBN := Lib.hid hbn
    dsimp only
    rw [hx]
    clear hx hbn
    gi_wp2
    exact hK _ _ ((KeepsOthers.alloc _ _).from _) (.of_below (bal (Below.refl _ _) _) hB.size) ⟨hall, hB.alloc hB.size _⟩ ⟨W.heap.size, _, _, _, _, HX.out, HBN.out, by rw [HX.out]⟩
  case body =>
    rintro l pre x a' W hl ⟨r, hr⟩ ⟨hall, hB⟩ ⟨Bx, vh, vb, vw, vs9, hx, bX, rfl⟩ hlt
    have kx := bX.cell
    have ki := (bI.below hB).cell 0
    have bRW := bR.below hB
    have hBw : Below w.heap.size w W := bon hbw hB
    have HE : Hid (Calls Tryz.prog 83 #[.agg #[.bool x.1.2.r.choice, vh, .bool x.1.2.r.sum, .int .i64 x.1.2.r.bound, vb, vw, .int .i64 x.1.2.b, vs9], .func (.func 38) #[] #[.pointer (some ⟨ab, 0, none⟩)]] W fun e w' => e = .returned (.bool (exc x.1.2 a)) ∧ Below W.heap.size W w') := Lib.hid (excluded_any _ x.1.2 ab a W (hx ▸ x.2.1.below hBw) x.2.2 (HA.out.below hBw))
    have HBX := Lib.hid hB
    have HBW := Lib.hid hBw
    have HALL := Lib.hid hall
    clear hB hBw hall
    cases he : exc x.1.2 a with
    | true =>
      have HEX : Hid (_ = true) := Lib.hid he
      rw [he] at HE
      clear he
      gi_wp2_with (refine ⟨trivial, ?_⟩; gi_at_call 83; refine (CallsIn.inRound l (callsIn_wide.2 HE.out)).mono ?_; rintro e w2 ⟨rfl, hb2⟩)
      refine ⟨keeps_below hb2, .of_below hb2 HBX.out.size, fun u hu => ?_, bon HBX.out hb2⟩
      rw [sus_snoc] at hu
      rcases List.mem_append.1 hu with h | h
      · exact HALL.out u h
      · obtain rfl := List.mem_singleton.1 h
        exact HEX.out
    | false =>
      have HEX : Hid (_ = false) := Lib.hid he
      rw [he] at HE
      clear he
      gi_wp2_with (refine ⟨trivial, ?_⟩; gi_at_call 83; refine (CallsIn.inRound l (callsIn_wide.2 HE.out)).mono ?_; rintro e w2 ⟨rfl, hb2⟩; have kc := (bRW.below hb2).cell 0; have kf := (bRW.below hb2).free 0)
      exact ⟨(keeps_below hb2).trans ((KeepsOthers.setCell _ _ _).from _), ⟨(bRW.below hb2).set 0 _, rfl, x.1.2, by rw [sus_snoc]; simp, HEX.out⟩, (bon HBW.out hb2).setCell (p := ⟨w.heap.size + 1 + 1, 0, none⟩) (by simp; omega) _⟩
  case done =>
    rintro D xs W hD hS ⟨hall, hB⟩ hK
    have bRW := bR.below hB
    have kc := bRW.cell 0
    have kf := bRW.free 0
    have hBw : Below w.heap.size w W := bon hbw hB
    gi_wp2
    have hK' := (KeepsOthers.setCell W ⟨w.heap.size + 1 + 1, 0, none⟩ (.bool true)).same D _ hK rfl
    refine ⟨by simp, .inl ⟨_, _, rfl, run_takeDeferred hK', ?_⟩⟩
    have hc5 := cell_kept (World.cell?_setCell_same' W ⟨w.heap.size + 1 + 1, 0, none⟩ (.bool true) (by rw [kc]; rfl)) (grownBy_putObj' _ D (.deferred none)) (fun r e => by cases e; exact ⟨_, hK', rfl⟩)
    refine ⟨.bool true, ?_, by rw [sus_mem hS hall], (hBw.setCell (p := ⟨w.heap.size + 1 + 1, 0, none⟩) (by simp; omega) _).trans (belowK_b (w := w) (Nat.le_refl _) _ D _ _ (by omega) hK' rfl rfl)⟩
    simp [results, Tryz.f37, go_sem, hc5]
  case stop =>
    rintro D c pre W hD ⟨k, hk, hS⟩ ⟨⟨bRW, rfl, u, hu, he⟩, hB⟩ hK
    gi_wp2
    refine ⟨by simp, .inl ⟨_, _, rfl, run_takeDeferred hK, ?_⟩⟩
    have hc5 := cell_kept (bRW.cell 0) (grownBy_putObj' _ D (.deferred none)) (fun r e => by cases e; exact ⟨_, hK, rfl⟩)
    refine ⟨.bool false, ?_, by rw [sus_some hk hS hu he], hB.trans (belowK_b (w := w) (Nat.le_refl _) W D _ _ (by omega) hK rfl rfl)⟩
    simp [results, Tryz.f37, go_sem, hc5]

end Go.Proofs.YthclpkhaenaknaaGreatDoor

/- loops: Unfounded. -/
namespace Go.Proofs.YthclpkhaenaknaaGreatDoor
open Go.RowKit

theorem ruleE_at {p : GP} (h : validE p = 0) {i : Nat} (hi : i < p.rules.length) : ruleE (ixR p.rules i) p.n = 0 := by
  unfold validE at h
  split at h
  · omega
  split at h
  · omega
  split at h
  · rename_i h3; exact absurd h h3
  rename_i h3
  exact rulesFrom_zero p.rules.length 0 (Decidable.not_not.1 h3) i (by omega) (by omega)

theorem rule_bound {r : GR} {n : Int} (h : ruleE r n = 0) : 0 ≤ r.bound ∧ r.bound ≤ 1048576 := by
  unfold ruleE at h
  grind

theorem inc_pos {l : List Int} {n : Int} (h : increasingB l n = true) {j : Nat} (hj : j < l.length) : 0 < ix l j ∧ ix l j ≤ n := by
  have h1 := ordered_lit (increasing_ordered h) (ix_mem hj)
  unfold increasingB at h
  simp only [Bool.and_eq_true] at h
  have h2 := allR_get h.2 j hj
  simp only [decide_eq_true_eq] at h2
  omega

theorem inc_ge {l : List Int} {n : Int} (h : increasingB l n = true) : ∀ j : Nat, j < l.length → (j : Int) + 1 ≤ ix l j
  | 0, hj => by have := inc_pos h hj; omega
  | j + 1, hj => by
    have h1 := inc_ge h j (by omega)
    have h2 := ordered_lt (increasing_ordered h) (j + 1) hj j (by omega)
    have h3 := inc_pos h hj
    have h4 := inc_pos h (show j < l.length by omega)
    unfold litKey at h2
    rw [if_pos (by omega), if_pos (by omega)] at h2
    omega

theorem supAt_ok {p : GP} (hv : validE p = 0) (S : List Int) {k : Nat} (hk : k < p.rules.length) : SUok (supAt p S k) where
  lits := fun j hj => by
    have h := validP hv
    have h1 := ordered_lit (h.body k hk) (ix_mem hj)
    have := h.n
    show 1 ≤ (ix (ixR p.rules k).body j).natAbs ∧ (ix (ixR p.rules k).body j).natAbs ≤ 1000000
    omega
  wts := fun hs => by
    have h1 := weights_sum ((validP hv).sum k hk hs)
    exact ⟨by exact_mod_cast h1.1, h1.2.1, h1.2.2⟩
  bound := rule_bound (ruleE_at hv hk)
  head := fun j hj => by
    have h := validP hv
    have h1 := inc_pos (h.head k hk) hj
    have := h.n
    show 1 ≤ ix (ixR p.rules k).head j ∧ ix (ixR p.rules k).head j ≤ 1000000
    omega
  b := by
    have h := validP hv
    have h1 := h.n
    have h2 := h.rules
    show 1 ≤ bodyI p k ∧ bodyI p k ≤ 1000000
    unfold bodyI
    rw [if_neg (by omega)]
    omega
  hlen := by
    have h := validP hv
    show (ixR p.rules k).head.length ≤ 1000000
    rcases Nat.eq_zero_or_pos (ixR p.rules k).head.length with h0 | h0
    · omega
    · have h1 := inc_ge (h.head k hk) ((ixR p.rules k).head.length - 1) (by omega)
      have h2 := inc_pos (h.head k hk) (show (ixR p.rules k).head.length - 1 < (ixR p.rules k).head.length by omega)
      have := h.n
      omega

def unfB (p : GP) (a S : List Int) : Bool := decide (validE p = 0) && (setB' p.n S && allExc p S a)

set_option maxHeartbeats 4000000 in
set_option maxRecDepth 100000 in
theorem unfounded_any (vp va vset : Value) (p : GP) (a S : List Int) (w : World) (hP : ProgIs w vp p) (hA : Bytes8 w va a) (hS : Ints w vset S) :
    Calls Tryz.prog 12 #[vp, va, vset] w fun e w' => e = .returned (.bool (unfB p a S)) ∧ Below w.heap.size w w' := by
  have hP0 := hP
  obtain ⟨vn, vs, vr, vm, rfl, hPS⟩ := hP
  obtain ⟨a1, c1, rfl, -, hl1, -, -⟩ := hPS.rules.form
  obtain ⟨a4, c4, rfl, -, hl4, -, -⟩ := hS.form
  obtain ⟨a9, n9, c9, rfl⟩ : ∃ a9 n9 c9, va = .slice a9 n9 c9 := by obtain ⟨⟨x, y, e, -⟩, -⟩ := hA; exact ⟨_, _, _, e⟩
  have hal : Below w.heap.size w ((w.alloc (.cells #[.int .i64 p.n, vn, vs, .slice a1 p.rules.length c1, vm] 27)).alloc (.cells #[.slice a9 n9 c9] 28)) := bal (bal (Below.refl _ _) _) _
  have hb1 := (Blk.new w [.int .i64 p.n, vn, vs, .slice a1 p.rules.length c1, vm] 27).alloc (.cells #[.slice a9 n9 c9] 28)
  have hb2 := Blk.new2 w (.cells #[.int .i64 p.n, vn, vs, .slice a1 p.rules.length c1, vm] 27) [.slice a9 n9 c9] 28
  have HP := Lib.hid (hP0.below hal)
  have HS := Lib.hid (hS.below hal)
  have HU : Hid (InU _ (w.heap.size + 1) a) := Lib.hid ⟨_, hb2, hA.below hal⟩
  have HAL := Lib.hid hal
  have HBK := Lib.hid hb1
  clear hP0 hPS hS hA hal hb1 hb2
  go_enter Tryz.func12, Tryz.ntmps12
  go_upto_region 1 with fail
  have kx := HBK.out.cell
  generalize (w.alloc (.cells #[.int .i64 p.n, vn, vs, .slice a1 p.rules.length c1, vm] 27)).alloc (.cells #[.slice a9 n9 c9] 28) = W at *
  have HF : Hid (unfB p a S = (decide (validE p = 0) && (setB' p.n S && allExc p S a))) := Lib.hid rfl
  by_cases hv : validE p = 0
  · have HV := Lib.hid hv
    have HOK : Hid (∀ k, k < p.rules.length → SUok (supAt p S k)) := Lib.hid (fun k hk => supAt_ok hv S hk)
    cases h2 : setB' p.n S with
    | false =>
      rw [h2, Bool.false_and, Bool.and_false] at HF
      have HI := Lib.hid h2
      clear h2 hv
      go_wp2_with (first
        | (go_at_call 17; (with_reducible refine (valid_any _ p W HP.out).mono ?_); rintro e w1 ⟨he, hb1⟩; rw [HV.out] at he; subst he; have HB1 := Lib.hid hb1; have kx1 := fun o => (bcell hb1 _ o HBK.out.lt).trans (HBK.out.cell o); clear hb1)
        | (go_at_call 36; (with_reducible refine (isSet_any _ _ p S _ (HP.out.below HB1.out) (HS.out.below HB1.out)).mono ?_); rintro e w2 ⟨he, hb2⟩; rw [HI.out] at he; subst he; have HB2 := Lib.hid (bon HB1.out hb2); clear hb2))
      go_ret
      exact ⟨ret_bool HF.out.symm, HAL.out.trans (HB2.out.mono HAL.out.size)⟩
    | true =>
      rw [h2, Bool.true_and, decide_eq_true hv, Bool.true_and] at HF
      have HI := Lib.hid h2
      clear h2 hv
      go_wp2_with (first
        | (go_at_call 17; (with_reducible refine (valid_any _ p W HP.out).mono ?_); rintro e w1 ⟨he, hb1⟩; rw [HV.out] at he; subst he; have HB1 := Lib.hid hb1; have kx1 := fun o => (bcell hb1 _ o HBK.out.lt).trans (HBK.out.cell o); clear hb1)
        | (go_at_call 36; (with_reducible refine (isSet_any _ _ p S _ (HP.out.below HB1.out) (HS.out.below HB1.out)).mono ?_); rintro e w2 ⟨he, hb2⟩; rw [HI.out] at he; subst he; have HB2 := Lib.hid (bon HB1.out hb2); have kx2 := fun o => (bcell HB2.out _ o HBK.out.lt).trans (HBK.out.cell o); clear hb2)
        | (go_at_call 37; (with_reducible refine (all_any p S a _ _ _ _ (HP.out.below HB2.out) (HS.out.below HB2.out) (HU.out.below HB2.out) HOK.out).mono ?_); rintro e w3 ⟨rfl, hb3⟩; have HB3 := Lib.hid (bon HB2.out hb3); clear hb3))
      go_ret
      exact ⟨ret_bool HF.out.symm, HAL.out.trans (HB3.out.mono HAL.out.size)⟩
  · rw [decide_eq_false hv, Bool.false_and] at HF
    go_wp2_with (go_at_call 17; (with_reducible refine (valid_any _ p W HP.out).mono ?_); rintro e w1 ⟨rfl, hb1⟩; have HB1 := Lib.hid hb1; clear hb1)
    go_ret
    exact ⟨ret_bool HF.out.symm, HAL.out.trans (HB1.out.mono HAL.out.size)⟩

end Go.Proofs.YthclpkhaenaknaaGreatDoor

/- Pseudo-Boolean constraints: Lean data, the normal form as a plain function. -/
namespace Go.Proofs.YthclpkhaenaknaaGreatDoor

/-- A constraint. -/
structure PBC where
  lits : List Int
  coefs : List Int
  bound : Int
  deriving Inhabited, DecidableEq

def plitB (l : Int) : Bool := decide (l ≠ 0 ∧ -65536 ≤ l ∧ l ≤ 65536)

/-- The coefficient of variable v in the first i literals. -/
def byTo (L K : List Int) (v : Int) : Nat → Int
  | 0 => 0
  | i + 1 => byTo L K v i + (if ix L i = v then ix K i else if ix L i = -v then -ix K i else 0)

/-- The coefficients of the negative ones of the first i literals. -/
def negTo (L K : List Int) : Nat → Int
  | 0 => 0
  | i + 1 => negTo L K i + (if ix L i < 0 then ix K i else 0)

def insK (v : Int) : List Int → List Int
  | [] => [v]
  | x :: l => if v < x then v :: x :: l else if v = x then x :: l else x :: insK v l

/-- The variables, in increasing order. -/
def keysOf : List Int → List Int
  | [] => []
  | l :: L => insK (l.natAbs : Int) (keysOf L)

def sumI (f : Int → Int) : List Int → Int
  | [] => 0
  | x :: l => f x + sumI f l

def lowI (x : Int) : Int := if x < 0 then x else 0
def absI (x : Int) : Int := if x < 0 then -x else x
def minI (x y : Int) : Int := if x ≤ y then x else y

/-- What Norm does to the variables that have a coefficient. -/
def litOf (by' : Int → Int) (v : Int) : Int := if by' v < 0 then -v else v

def pokAt (L K : List Int) (i : Nat) : Bool := plitB (ix L i) && decide (-16777216 ≤ ix K i ∧ ix K i ≤ 16777216)

def normC (by' : Int → Int) (V : List Int) (bd : Int) : PBC × Int :=
  if bd ≤ 0 then (⟨[], [], 0⟩, 0)
  else if sumI (fun v => minI (absI (by' v)) bd) V < bd then (⟨[], [], 1⟩, 0)
  else if 16777216 < bd then (⟨[], [], 0⟩, 3)
  else (⟨V.map (litOf by'), V.map (fun v => minI (absI (by' v)) bd), bd⟩, 0)

/-- The normal form and the error. -/
def normP (L K : List Int) (B : Int) : PBC × Int :=
  if L.length ≠ K.length ∨ 65536 < L.length ∨ B < -1099511627776 ∨ 1099511627776 < B then (⟨[], [], 0⟩, 2)
  else if allR L.length (pokAt L K) = false then (⟨[], [], 0⟩, 2)
  else normC (fun v => byTo L K v L.length) ((keysOf L).filter fun v => byTo L K v L.length != 0) (B - negTo L K L.length - sumI (fun v => lowI (byTo L K v L.length)) (keysOf L))

/-! ### The variables -/
theorem mem_insK {v x : Int} : ∀ {l : List Int}, x ∈ insK v l ↔ x = v ∨ x ∈ l
  | [] => by simp [insK]
  | y :: l => by
    unfold insK
    split
    · simp
    · split
      · rename_i h; subst h; simp
      · rw [List.mem_cons, mem_insK, List.mem_cons]
        constructor
        · rintro (h | h | h)
          · exact .inr (.inl h)
          · exact .inl h
          · exact .inr (.inr h)
        · rintro (h | h | h)
          · exact .inr (.inl h)
          · exact .inl h
          · exact .inr (.inr h)

theorem insK_sorted {v : Int} : ∀ {l : List Int}, l.Pairwise (· < ·) → (insK v l).Pairwise (· < ·)
  | [], _ => by simp [insK]
  | y :: l, h => by
    obtain ⟨h1, h2⟩ := List.pairwise_cons.1 h
    unfold insK
    split
    · rename_i hv
      refine List.pairwise_cons.2 ⟨fun z hz => ?_, h⟩
      rcases List.mem_cons.1 hz with rfl | hz
      · exact hv
      · have := h1 z hz; omega
    · split
      · exact h
      · rename_i hv hne
        refine List.pairwise_cons.2 ⟨fun z hz => ?_, insK_sorted h2⟩
        rcases mem_insK.1 hz with rfl | hz
        · omega
        · exact h1 z hz

theorem mem_keys {x : Int} : ∀ {L : List Int}, x ∈ keysOf L ↔ ∃ l ∈ L, (l.natAbs : Int) = x
  | [] => by simp [keysOf]
  | l :: L => by
    unfold keysOf
    rw [mem_insK, mem_keys]
    constructor
    · rintro (h | ⟨y, hy, e⟩)
      · exact ⟨l, .head _, h.symm⟩
      · exact ⟨y, .tail _ hy, e⟩
    · rintro ⟨y, hy, e⟩
      rcases List.mem_cons.1 hy with rfl | hy
      · exact .inl e.symm
      · exact .inr ⟨y, hy, e⟩

theorem keys_sorted : ∀ L : List Int, (keysOf L).Pairwise (· < ·)
  | [] => by simp [keysOf]
  | _ :: L => insK_sorted (keys_sorted L)

theorem sorted_nodup {l : List Int} (h : l.Pairwise (· < ·)) : l.Nodup := h.imp fun h => Int.ne_of_lt h

/-- Two strictly increasing lists with the same members are one. -/
theorem sorted_eqP : ∀ {a b : List Int}, a.Pairwise (· < ·) → b.Pairwise (· < ·) → (∀ x, x ∈ a ↔ x ∈ b) → a = b
  | [], [], _, _, _ => rfl
  | [], y :: b, _, _, h => absurd ((h y).2 (.head _)) (by simp)
  | x :: a, [], _, _, h => absurd ((h x).1 (.head _)) (by simp)
  | x :: a, y :: b, ha, hb, h => by
    obtain ⟨a1, a2⟩ := List.pairwise_cons.1 ha
    obtain ⟨b1, b2⟩ := List.pairwise_cons.1 hb
    have hxy : x = y := by
      have h1 := (h x).1 (.head _)
      have h2 := (h y).2 (.head _)
      rcases List.mem_cons.1 h1 with e | h1
      · exact e
      · rcases List.mem_cons.1 h2 with e | h2
        · exact e.symm
        · have := b1 x h1; have := a1 y h2; omega
    subst hxy
    congr 1
    refine sorted_eqP a2 b2 fun z => ⟨fun hz => ?_, fun hz => ?_⟩
    · rcases List.mem_cons.1 ((h z).1 (.tail _ hz)) with e | h3
      · subst e; have := a1 z hz; omega
      · exact h3
    · rcases List.mem_cons.1 ((h z).2 (.tail _ hz)) with e | h3
      · subst e; have := b1 z hz; omega
      · exact h3

theorem sumI_perm {f : Int → Int} {a b : List Int} (h : a.Perm b) : sumI f a = sumI f b := by
  induction h with
  | nil => rfl
  | cons x _ ih => simp only [sumI, ih]
  | swap x y l => simp only [sumI]; omega
  | trans _ _ h1 h2 => exact h1.trans h2

/-- Two lists without repetition that have the same members are permutations of each other. -/
theorem nodup_perm {a b : List Int} (ha : a.Nodup) (hb : b.Nodup) (h : ∀ x, x ∈ a ↔ x ∈ b) : a.Perm b := by
  refine List.perm_iff_count.2 fun x => ?_
  rw [ha.count, hb.count]
  by_cases hx : x ∈ a
  · rw [if_pos hx, if_pos ((h x).1 hx)]
  · rw [if_neg hx, if_neg (fun h' => hx ((h x).2 h'))]

theorem sumI_append (f : Int → Int) : ∀ a b : List Int, sumI f (a ++ b) = sumI f a + sumI f b
  | [], b => by simp [sumI]
  | x :: a, b => by simp only [List.cons_append, sumI, sumI_append f a b]; omega

theorem sumI_snoc (f : Int → Int) (a : List Int) (x : Int) : sumI f (a ++ [x]) = sumI f a + f x := by
  rw [sumI_append]; simp [sumI]

/-! ### Bounds -/
theorem byTo_bound {L K : List Int} {v : Int} : ∀ (i : Nat), (∀ j, j < i → -16777216 ≤ ix K j ∧ ix K j ≤ 16777216) → -(16777216 * (i : Int)) ≤ byTo L K v i ∧ byTo L K v i ≤ 16777216 * (i : Int)
  | 0, _ => by simp [byTo]
  | i + 1, h => by
    have ih := byTo_bound (L := L) (K := K) (v := v) i fun j hj => h j (by omega)
    have hi := h i (by omega)
    unfold byTo
    push_cast
    split
    · omega
    · split <;> omega

theorem negTo_bound {L K : List Int} : ∀ (i : Nat), (∀ j, j < i → -16777216 ≤ ix K j ∧ ix K j ≤ 16777216) → -(16777216 * (i : Int)) ≤ negTo L K i ∧ negTo L K i ≤ 16777216 * (i : Int)
  | 0, _ => by simp [negTo]
  | i + 1, h => by
    have ih := negTo_bound (L := L) (K := K) i fun j hj => h j (by omega)
    have hi := h i (by omega)
    unfold negTo
    push_cast
    split <;> omega

theorem sumI_bound {f : Int → Int} {m : Int} : ∀ (l : List Int), (∀ x ∈ l, -m ≤ f x ∧ f x ≤ m) → -(m * (l.length : Int)) ≤ sumI f l ∧ sumI f l ≤ m * (l.length : Int)
  | [], _ => by simp [sumI]
  | x :: l, h => by
    have ih := sumI_bound l fun y hy => h y (.tail _ hy)
    have hx := h x (.head _)
    simp only [sumI, List.length_cons]
    push_cast
    rw [Int.mul_add]
    omega

end Go.Proofs.YthclpkhaenaknaaGreatDoor

/- pb: literal, abs, the iterator parts$1: contracts. -/
namespace Go.Proofs.YthclpkhaenaknaaGreatDoor
open Go.RowKit Go.Shelf
attribute [local go_sem] Oper.semAt_some

/-- A constraint in memory. -/
def PBIs (w : World) (v : Value) (c : PBC) : Prop := ∃ vl vk, v = .agg #[vl, vk, .int .i64 c.bound] ∧ Ints w vl c.lits ∧ Ints w vk c.coefs ∧ InI c.bound

theorem PBIs.below {w w' : World} {v : Value} {c : PBC} (h : PBIs w v c) (hb : Below w.heap.size w w') : PBIs w' v c :=
  let ⟨vl, vk, e, h1, h2, h3⟩ := h; ⟨vl, vk, e, h1.below hb, h2.below hb, h3⟩

theorem pliteral_any (l : Int) (w : World) : Calls Tryz.prog 52 #[.int .i64 l] w fun e w' => e = .returned (.bool (plitB l)) ∧ w = w' := by
  by_cases h0 : l = 0
  · subst h0
    go_enter Tryz.func52, Tryz.ntmps52
    go_wp2
    go_ret
    exact ⟨rfl, rfl⟩
  · by_cases h1 : -65536 ≤ l
    · by_cases h2 : l ≤ 65536
      · have HF : Hid (plitB l = true) := Lib.hid (by unfold plitB; simp [h0, h1, h2])
        go_enter Tryz.func52, Tryz.ntmps52
        go_wp2
        go_ret
        exact ⟨ret_bool (by rw [HF.out]; try simp_all), rfl⟩
      · have HF : Hid (plitB l = false) := Lib.hid (by unfold plitB; simp [h2])
        go_enter Tryz.func52, Tryz.ntmps52
        go_wp2
        go_ret
        exact ⟨ret_bool (by rw [HF.out]; try simp_all), rfl⟩
    · have HF : Hid (plitB l = false) := Lib.hid (by unfold plitB; simp [h1])
      go_enter Tryz.func52, Tryz.ntmps52
      go_wp2
      go_ret
      exact ⟨ret_bool (by rw [HF.out]; try simp_all), rfl⟩

theorem abs_any (l : Int) (hl : -4611686018427387904 ≤ l ∧ l ≤ 4611686018427387904) (w : World) : Calls Tryz.prog 53 #[.int .i64 l] w fun e w' => e = .returned (.int .i64 l.natAbs) ∧ w = w' := by
  go_enter Tryz.func53, Tryz.ntmps53
  go_wp2
  all_goals
    go_ret
    refine ⟨ret_int ?_, rfl⟩
    omega

theorem parts_any (vl vk : Value) (bd : Int) (w : World) (hl : ∃ a n c, vl = .slice a n c) (hk : ∃ a n c, vk = .slice a n c) :
    Calls Tryz.prog 51 #[.agg #[vl, vk, .int .i64 bd]] w fun e w' => e = .returned (.func (.func 98) #[] #[.pointer (some ⟨w.heap.size, 0, none⟩)]) ∧ Below w.heap.size w w' ∧ Blk w' w.heap.size [vl, vk, .int .i64 bd] 30 := by
  obtain ⟨a1, n1, c1, rfl⟩ := hl
  obtain ⟨a2, n2, c2, rfl⟩ := hk
  have HB : Hid (Below w.heap.size w (w.alloc (.cells #[.slice a1 n1 c1, .slice a2 n2 c2, .int .i64 bd] 30))) := Lib.hid (bal (Below.refl _ _) _)
  have HK := Lib.hid (Blk.new w [.slice a1 n1 c1, .slice a2 n2 c2, .int .i64 bd] 30)
  go_enter Tryz.func51, Tryz.ntmps51
  go_wp2
  go_ret
  exact ⟨rfl, HB.out, HK.out⟩

/-- What parts yields. -/
abbrev PV (c : PBC) := { q : Int × Int // q ∈ c.lits.zip c.coefs }

def pvs {c : PBC} (l : List (PV c)) : List (Int × Int) := l.map (·.1)
theorem pvs_snoc {c : PBC} (l : List (PV c)) (x : PV c) : pvs (l ++ [x]) = pvs l ++ [x.1] := by simp [pvs]
theorem pvs_len {c : PBC} (l : List (PV c)) : (pvs l).length = l.length := by simp [pvs]

theorem zip_at {L K : List Int} {k : Nat} (hk : k < L.length) (hl : L.length = K.length) : (L.zip K)[k]? = some (ix L k, ix K k) := by
  simp only [ix, List.getD_eq_getElem?_getD, List.getElem?_zip_eq_some, List.getElem?_eq_getElem hk, List.getElem?_eq_getElem (show k < K.length by omega), Option.getD_some, and_self]

theorem zip_take {L K : List Int} {k : Nat} (hk : k < L.length) (hl : L.length = K.length) : (L.zip K).take (k + 1) = (L.zip K).take k ++ [(ix L k, ix K k)] := by
  rw [List.take_add_one, zip_at hk hl]
  rfl

/-- What the iterator leans on. -/
structure PartSt (wi w : World) (S : List Nat) (cb : Nat) (vl vk : Value) (bd : Int) : Prop where
  below : ∀ i, i < wi.heap.size → w.heap[i]? = wi.heap[i]?
  size : wi.heap.size ≤ w.heap.size
  box : Blk w cb [vl, vk, .int .i64 bd] 30

theorem PartSt.lim {wi w w' : World} {S : List Nat} {cb n : Nat} {vl vk : Value} {bd : Int} (h : PartSt wi w S cb vl vk bd) (hl : Lim n S w w') (hn : wi.heap.size ≤ n) (hcb : cb < n) (hS : ∀ s ∈ S, wi.heap.size ≤ s) (hne : cb ∉ S) : PartSt wi w' S cb vl vk bd :=
  ⟨fun i hi => (hl.block i (by omega) (fun hm => by have := hS i hm; omega)).trans (h.below i hi), Nat.le_trans h.size hl.size, h.box.same (hl.block cb hcb hne)⟩

def PartRel (c : PBC) (n0 : Nat) (S : List Nat) (W0 : World) (J : List (PV c) → World → Prop) (i : Value) (wr : World) : Prop :=
  ∃ (k : Nat) (pre : List (PV c)), k ≤ c.lits.length ∧ i = .int .i64 k ∧ pvs pre = (c.lits.zip c.coefs).take k ∧ J pre wr ∧ Lim n0 S W0 wr

theorem cell_of_same {w w' : World} {b o : Nat} (h : w'.heap[b]? = w.heap[b]?) : w'.cell? ⟨b, o, none⟩ = w.cell? ⟨b, o, none⟩ := World.cell?_of_block h

theorem yieldEnd2 {e : Ending} {A B : Prop} (h : (e = .returned (.bool true) ∧ A) ∨ (e = .returned (.bool false) ∧ B)) : ∃ b, e = .returned (.bool b) ∧ (b = true → A) ∧ (b = false → B) := by
  rcases h with ⟨rfl, h⟩ | ⟨rfl, h⟩
  · exact ⟨true, rfl, fun _ => h, fun e => (Bool.noConfusion e)⟩
  · exact ⟨false, rfl, (fun e => Bool.noConfusion e), fun _ => h⟩

set_option maxHeartbeats 4000000 in
set_option maxRecDepth 100000 in
theorem parts_stops (c : PBC) (wi w0 : World) (vl vk : Value) (hL : Ints wi vl c.lits) (hK : Ints wi vk c.coefs) (hlen : c.lits.length = c.coefs.length) (S : List Nat) (cb : Nat)
    (hst : PartSt wi w0 S cb vl vk c.bound) (hS : ∀ s ∈ S, wi.heap.size ≤ s) (hne : cb ∉ S) (n : Nat) (hn : 1 ≤ n) :
    SeqStopsK Fence.wide n Tryz.prog 98 #[.pointer (some ⟨cb, 0, none⟩)] (fun x : PV c => #[.int .i64 x.1.1, .int .i64 x.1.2]) (Lim w0.heap.size S)
      (fun xs => pvs xs = c.lits.zip c.coefs) (fun pre => ∃ k, k ≤ c.lits.length ∧ pvs pre = (c.lits.zip c.coefs).take k) c.lits.length w0 := by
  intro l J Jx W hW hJ hJx hY h0
  obtain ⟨a1, c1, rfl, -, hl1, -, hcell1⟩ := hL.form
  obtain ⟨a2, c2, rfl, -, hl2, -, hcell2⟩ := hK.form
  have HC1 := Lib.hid hcell1
  have HC2 := Lib.hid hcell2
  have HY := Lib.hid hY
  have HJ := Lib.hid hJ
  have HJX := Lib.hid hJx
  have H0 := Lib.hid h0
  have HLEN := Lib.hid hlen
  have hcbl := hst.box.lt
  have hsz := hst.size
  have HS0 : Hid (PartSt wi W S cb (.slice a1 c.lits.length c1) (.slice a2 c.coefs.length c2) c.bound) := Lib.hid (hst.lim (.of_below hW (Nat.le_refl _)) hsz hcbl hS hne)
  have HS := Lib.hid hS
  have HNE := Lib.hid hne
  have kp := HS0.out.box.cell
  have hzW := hW.size
  clear hst hY hJ hJx h0 hW hcell1 hcell2 hL hK hS hne hlen
  refine callsIn_of_wp Tryz.func98 rfl trivial ?_ rfl
  simp only [Tryz.ntmps98, List.size_toArray, List.length_cons, List.length_nil, Nat.reduceAdd, Nat.reduceSub, Array.replicate_succ, Array.replicate_zero, List.push_toArray, List.append_toArray, List.nil_append, List.cons_append]
  gi_wp2
  clear kp
  gi_loopw [8] (fun i wr => PartRel c w0.heap.size S W J i wr) (fun i _ => c.lits.length - (intOf i).toNat)
  case atStart => exact ⟨0, [], Nat.zero_le _, rfl, by simp [pvs], H0.out, Lim.refl _ _ _⟩
  case round =>
    obtain ⟨k, pre, hk, rfl, hpre, hj, hlim⟩ := hrel
    have HJR := Lib.hid hj
    have HPRE := Lib.hid hpre
    have HLIM := Lib.hid hlim
    have HSR := Lib.hid (HS0.out.lim hlim hsz hcbl HS.out HNE.out)
    clear hj hpre hlim
    by_cases hlt : k < c.lits.length
    · have hlt2 : k < c.coefs.length := by have := HLEN.out; omega
      obtain ⟨b1, o1, rfl, hb1, hc1⟩ := HC1.out (by omega)
      obtain ⟨b2, o2, rfl, hb2, hc2⟩ := HC2.out (by omega)
      have k1 := (cell_of_same (o := o1 + k) (HSR.out.below b1 hb1)).trans (hc1 k hlt)
      have k2 := (cell_of_same (o := o2 + k) (HSR.out.below b2 hb2)).trans (hc2 k hlt2)
      have kr := HSR.out.box.cell
      have HLN : Hid (pre.length < c.lits.length) := Lib.hid (by
        have h1 := congrArg List.length HPRE.out
        rw [pvs_len, List.length_take] at h1
        have := Nat.min_le_left k (c.lits.zip c.coefs).length
        omega)
      have HM : Hid ((ix c.lits k, ix c.coefs k) ∈ c.lits.zip c.coefs) := Lib.hid (List.mem_of_getElem? (zip_at hlt HLEN.out))
      have HZ := Lib.hid (zip_take hlt HLEN.out)
      clear hc1 hc2
      obtain ⟨fn, tmps, assign, body, hy, hR⟩ := HY.out pre ⟨_, HM.out⟩ wr HJR.out HLN.out
      dsimp only at hy
      gi_wp2_with (refine hR.mono ?_; rintro e W3 h3; obtain ⟨bb, rfl, hbt, hbf⟩ := yieldEnd2 h3; have HBT := Lib.hid hbt; have HBF := Lib.hid hbf; clear hbt hbf h3)
      case roundEnd =>
        obtain rfl : bb = true := by simpa using ‹(!bb) = false›
        exact ⟨⟨k + 1, pre ++ [_], hlt, by go_num, by rw [pvs_snoc, HPRE.out, HZ.out], (HBT.out (by first | exact rfl | exact trivial)).1, HLIM.out.trans (HBT.out (by first | exact rfl | exact trivial)).2⟩, by simp [intOf]; omega⟩
      obtain rfl : bb = false := by simpa using ‹(!bb) = true›
      refine bodyPost_ret (results_none rfl _ _ _) rfl ?_
      exact ⟨⟨_, rfl⟩, .inr ⟨pre ++ [_], ⟨k + 1, hlt, by rw [pvs_snoc, HPRE.out, HZ.out]⟩, HBF.out (by first | exact rfl | exact trivial)⟩⟩
    · gi_wp2
      go_end0
      obtain rfl : k = c.lits.length := by omega
      exact ⟨⟨_, rfl⟩, .inl ⟨pre, by rw [HPRE.out, List.take_of_length_le (by rw [List.length_zip]; exact Nat.min_le_left _ _)], HJR.out⟩⟩

end Go.Proofs.YthclpkhaenaknaaGreatDoor

/- loops.Valid's closure: membership in the constraint's literals. -/
namespace Go.Proofs.YthclpkhaenaknaaGreatDoor
open Go.RowKit

def inB (L : List Int) (l : Int) : Bool := decide (l ∈ L)

/-- The constraint that the closure has captured. -/
def InV (w : World) (cb : Nat) (L : List Int) : Prop := ∃ vl vk bd, Blk w cb [vl, vk, .int .i64 bd] 30 ∧ Ints w vl L

theorem InV.below {w w' : World} {cb : Nat} {L : List Int} (h : InV w cb L) (hb : Below w.heap.size w w') : InV w' cb L :=
  let ⟨vl, vk, bd, h1, h2⟩ := h; ⟨vl, vk, bd, h1.below hb, h2.below hb⟩

set_option maxHeartbeats 1000000 in
theorem inV_any (l : Int) (ab : Nat) (a : List Int) (w : World) (h : InV w ab a) (_hl : 1 ≤ l.natAbs ∧ l.natAbs ≤ 1000000) :
    Calls Tryz.prog 43 #[.int .i64 l, .pointer (some ⟨ab, 0, none⟩)] w fun e w' => e = .returned (.bool (inB a l)) ∧ w = w' := by
  obtain ⟨vl, vk, bd, h1, h2⟩ := h
  have k0 := h1.cell 0
  have H2 := Lib.hid h2
  obtain ⟨a9, c9, rfl, -⟩ := h2.form
  clear h1 h2
  go_enter Tryz.func43, Tryz.ntmps43
  go_wp2_with (go_at_call 28; (with_reducible refine (contains_any _ a l _ H2.out).mono ?_); rintro e w1 ⟨rfl, rfl⟩)
  go_ret
  exact ⟨rfl, rfl⟩

end Go.Proofs.YthclpkhaenaknaaGreatDoor
