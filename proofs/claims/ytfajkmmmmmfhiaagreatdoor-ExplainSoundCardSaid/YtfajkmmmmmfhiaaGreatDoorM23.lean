/- My texts Rounds2, Least, MoreP, merged. -/
import Derived.Test.YtfajkmmmmmfhiaaGreatDoorM06
import Derived.Test.YtfajkmmmmmfhiaaGreatDoorM22
import Derived.Test.YtfajkmmmmmfhiaaGreatDoorM05
import Derived.Test.YtfajkmmmmmfhiaaGreatDoorM04
import Derived.Test.YtfajkmmmmmfhiaaGreatDoorM03
import Derived.Test.YtfajkmmmmmfhiaaGreatDoorM00
import Derived.Test.YtfajkmmmmmfhiaaGreatDoorProg
import Derived.WalkKit
import Derived.Lib.Hide
import Derived.Deep.QuietTactic
import Derived.BigQuiet
import Derived.Lib.Bytealg
import Derived.MapKept
import Derived.Maps.OwnSet
import Derived.Maps.OwnOps
import Derived.WalkSpells
import Derived.Lib.SliceRun
import Derived.Test.YtfajkmmmmmfhiaaGreatDoorM02
import Derived.Test.YtfajkmmmmmfhiaaGreatDoorM20
import Derived.Test.YtfajkmmmmmfhiaaGreatDoorM01
import Derived.Deep.AppendLies
import Derived.Deep.DeepCutAuto
import Derived.Deep.OwnRows
import Derived.Deep.LoopGhost
import Derived.Test.YtfajkmmmmmfhiaaGreatDoorM07
import Derived.Deep.RegionWith
import Derived.Deep.DrawnRows

namespace Go.Proofs.YtfajkmmmmmfhiaaGreatDoor
open Go.RowKit
attribute [local go_sem] memUpon
theorem sz_alloc (w : World) (o : Obj) : (w.alloc o).heap.size = w.heap.size + 1 := by simp
theorem alloc6 (w : World) (a b c d e f : Obj) : ((((((w.alloc a).alloc b).alloc c).alloc d).alloc e).alloc f).heap[w.heap.size]? = some a ∧ ((((((w.alloc a).alloc b).alloc c).alloc d).alloc e).alloc f).heap[w.heap.size + 1]? = some b ∧
    ((((((w.alloc a).alloc b).alloc c).alloc d).alloc e).alloc f).heap[w.heap.size + 1 + 1]? = some c ∧ ((((((w.alloc a).alloc b).alloc c).alloc d).alloc e).alloc f).heap[w.heap.size + 1 + 1 + 1]? = some d ∧
    ((((((w.alloc a).alloc b).alloc c).alloc d).alloc e).alloc f).heap[w.heap.size + 1 + 1 + 1 + 1]? = some e ∧ ((((((w.alloc a).alloc b).alloc c).alloc d).alloc e).alloc f).heap[w.heap.size + 1 + 1 + 1 + 1 + 1]? = some f := by
  refine ⟨?_, ?_, ?_, ?_, ?_, ?_⟩ <;> simp only [alloc_at, sz_alloc] <;> repeat (first | rw [if_pos trivial] | rw [if_pos rfl] | rw [if_neg (by omega)])
theorem rowTy {base E size n : Nat} {xs : List Value} {v : Value} {g : Nat} {w : World} {c : List Value} {T : TypeId} (h : w.ownsRow base E size v n xs) (hg : v.ownBlock = some g) (hb : Blk w g c T) : T = E := by
  rcases h.2 with ⟨rfl, _⟩ | ⟨g', cap, cur, rfl, _, hgg, _⟩
  · cases hg
  · simp only [Value.ownBlock, Option.some.injEq] at hg
    subst hg
    unfold Blk at hb
    rw [hgg] at hb
    have := Option.some.inj hb
    injection this with _ h2 _
    exact h2.symm
def R1 (R : List GR) (nn : Nat) (W6 : World) (nb tb : Nat) (i : Value) (wx : World) : Prop := ∃ k : Nat, k ≤ R.length ∧ i = .int .i64 k ∧ ∃ nd V, P1 R nn W6 nb tb k nd V (usesU R k) wx
def R2 (R : List GR) (nn : Nat) (W6 : World) (nb tb k b12 : Nat) (c : List Value) (i : Value) (wx : World) : Prop :=
  ∃ q : Nat, q ≤ (ixR R k).body.length ∧ i = .int .i64 q ∧ ∃ nd V, P1 R nn W6 nb tb (k + 1) nd V (stepU (usesU R k) (ixR R k) k q) wx ∧ Blk wx b12 c 60
def R3' (R : List GR) (nn : Nat) (w1 : World) (nb ob b9 : Nat) (nd : List Int) (i : Value) (wx : World) : Prop :=
  ∃ k : Nat, k ≤ R.length ∧ i = .int .i64 k ∧ ∃ od l, RSt w1 nb ob b9 nd od l wx ∧ Lv nn R [] l od nd ∧ Asked R ([] ++ l) nd (fun j => k ≤ j)
def R4' (R : List GR) (nn : Nat) (w1 : World) (nb ob b9 : Nat) (g : Nat) (r : Value) (wx : World) : Prop :=
  ∃ C l od nd, ∃ rd : Int, g + C.length = nn ∧ r = .int .i64 rd ∧ 2 ≤ rd ∧ rd ≤ 2 + C.length ∧ RSt w1 nb ob b9 nd od l wx ∧ Lv nn R C l od nd ∧ Paid R C nd ∧ Asked R (C ++ l) nd (fun _ => False)
def R5' (R : List GR) (W2 : World) (nb ob b9 : Nat) (C L od : List Int) (i : Value) (wx : World) : Prop :=
  ∃ j : Nat, j ≤ L.length ∧ i = .int .i64 j ∧ ∃ nd, nd.length = R.length ∧ RSt W2 nb ob b9 nd od [] wx ∧ Paid R (C ++ L.take j) nd
def R6' (R : List GR) (W2 : World) (nb ob b9 : Nat) (D od : List Int) (a : Int) (i : Value) (wx : World) : Prop :=
  ∃ q : Nat, q ≤ (usesU R R.length a).length ∧ i = .int .i64 q ∧ ∃ nd, nd.length = R.length ∧ RSt W2 nb ob b9 nd od [] wx ∧ ∀ i, i < R.length → ix nd i = need0 (ixR R i) - lhs D (ixR R i) - sumAt i ((usesU R R.length a).take q)
def R7' (R : List GR) (nn : Nat) (W2 : World) (nb ob b9 : Nat) (C L nd : List Int) (T : Nat → Nat → Prop) (n : Nat) (i : Value) (wx : World) : Prop :=
  ∃ j : Nat, j ≤ n ∧ i = .int .i64 j ∧ ∃ od l, RSt W2 nb ob b9 nd od l wx ∧ Lv nn R (C ++ L) l od nd ∧ Asked R ((C ++ L) ++ l) nd (T j)
theorem take_push (L : List Int) (j : Nat) (hj : j < L.length) (C : List Int) : C ++ L.take (j + 1) = (C ++ L.take j) ++ [ix L j] := by
  rw [take_ix L j hj, List.append_assoc]
theorem Lv.fresh {n : Int} {R : List GR} {C l od nd : List Int} (h : Lv n R C l od nd) {j : Nat} (hj : j < l.length) : ix l j ∉ C ++ l.take j := by
  have h1 := h.nodup
  have e : C ++ l = (C ++ l.take j) ++ l.drop j := by rw [List.append_assoc, List.take_append_drop]
  rw [e] at h1
  have h2 := (List.nodup_append.1 h1).2.2
  intro hm
  refine h2 _ hm (ix l j) ?_ rfl
  have : ix l j = l[j] := by simp [ix, List.getD_eq_getElem?_getD, List.getElem?_eq_getElem hj]
  rw [this, List.mem_iff_getElem]
  exact ⟨0, by simp; omega, by simp⟩
theorem paid_push {R : List GR} {D : List Int} {a : Int} {nd : List Int} (ha : a ∉ D) (h : ∀ i, i < R.length → ix nd i = need0 (ixR R i) - lhs D (ixR R i) - sumAt i (usesU R R.length a)) : Paid R (D ++ [a]) nd := fun i hi => by
  rw [h i hi, usesU_sum, if_pos hi]
  unfold lhs
  rw [lhsTo_push ha]
  omega
theorem pay_step {R : List GR} {D : List Int} {U : List (Int × Int)} {nd : List Int} {q ui : Nat} {uw : Int} (hq : q < U.length) (hup : U.getD q (0, 0) = ((ui : Int), uw)) (hl : ui < nd.length) (h : ∀ i, i < R.length → ix nd i = need0 (ixR R i) - lhs D (ixR R i) - sumAt i (U.take q)) :
    ∀ i, i < R.length → ix (nd.set ui (ix nd ui - uw)) i = need0 (ixR R i) - lhs D (ixR R i) - sumAt i (U.take (q + 1)) := fun i hi => by
  rw [ix_set _ _ _ _ hl, sumAt_take_succ _ _ _ hq, hup]
  by_cases e : i = ui
  · subst e
    rw [if_pos rfl, if_pos rfl, h i hi]
    simp only
    omega
  · rw [if_neg e, if_neg (by simp only; omega), h i hi]
    omega
def RoundsPost (R : List GR) (nn : Nat) (w : World) (e : Ending) (w' : World) : Prop :=
  ∃ od ao co, e = .returned (.tuple #[.slice ao nn co, .int .i64 0]) ∧ QRow w.heap.size w' (.slice ao nn co) od ∧ od.length = nn ∧ (∀ i, 0 ≤ ix od i) ∧ IsLeast R (posL od nn) ∧ Below w.heap.size w w'
set_option maxHeartbeats 8000000 in
set_option maxRecDepth 100000 in
theorem rounds_any (v : Value) (R : List GR) (nn : Nat) (w : World) (h : RulesIs w v R) (hB : definiteB nn R = true) :
    Calls Tryz.prog 82 #[.int .i64 nn, v] w (RoundsPost R nn w) := by
  have hd := definiteB_spec hB
  obtain ⟨ar, cr, rfl, -, hl1, -, hcellR⟩ := h.form
  have hal := bal (Below.refl w.heap.size w) (.cells #[.slice ar R.length cr] 24)
  have HR := Lib.hid (h.below hal)
  have HBK := Lib.hid (Blk.new w [.slice ar R.length cr] 24)
  have hrng := hd.rng
  have hlen := hd.len
  have HB := Lib.hid hB
  have HD := Lib.hid hd
  have HR0 := Lib.hid h
  have HCR := Lib.hid hcellR
  clear h hd hcellR
  have hmk1 : ∀ w : World, (Instr.makeSlice 23 (.int .i64 (R.length : Int)) (.int .i64 (R.length : Int))).run Tryz.prog w = .ok (.slice (some ⟨w.heap.size, 0, none⟩) R.length R.length) (w.alloc (.cells (madeCells #[.int .i64 0] R.length) 3)) := fun w => run_make_row' _ _ _ _ Tryz.underlying23 infoI rfl .i64 .i64 R.length (by omega) (by omega) w
  have hmk2 : ∀ w : World, (Instr.makeSlice 23 (.int .i64 (nn : Int)) (.int .i64 (nn : Int))).run Tryz.prog w = .ok (.slice (some ⟨w.heap.size, 0, none⟩) nn nn) (w.alloc (.cells (madeCells #[.int .i64 0] nn) 3)) := fun w => run_make_row' _ _ _ _ Tryz.underlying23 infoI rfl .i64 .i64 nn (by omega) (by omega) w
  have hmk3 : ∀ w : World, (Instr.makeSlice 155 (.int .i64 ((nn : Int) + 1)) (.int .i64 ((nn : Int) + 1))).run Tryz.prog w = .ok (.slice (some ⟨w.heap.size, 0, none⟩) (nn + 1) (nn + 1)) (w.alloc (.cells (madeCells #[.slice none 0 0] (nn + 1)) 157)) := fun w => by
    have := run_make_row' (P := Tryz.prog) 155 157 (.slice none 0 0) 24 Tryz.underlying155 infoU rfl .i64 .i64 (nn + 1) (by omega) (by omega) w
    push_cast at this
    exact this
  go_enter Tryz.func82, Tryz.ntmps82
  go_upto_region 8 with ((go_at_call 131; (with_reducible refine (definite_any _ R _ _ HR.out).mono ?_); rintro e w2 ⟨e2, hb2⟩; rw [HB.out] at e2; subst e2; have hb2' := bcell hb2; have hz2 : w.heap.size < w2.heap.size := (by have := hb2.size; simp at this; omega)))
  obtain ⟨W6, hW6⟩ : ∃ W6, W6 = ((((((w2.alloc (.cells (madeCells #[.int .i64 0] R.length) 3)).alloc (.cells #[.slice (some ⟨w2.heap.size, 0, none⟩) R.length R.length] 23)).alloc (.cells (madeCells #[.slice none 0 0] (nn + 1)) 157)).alloc (.cells (madeCells #[.int .i64 0] nn) 3)).alloc (.cells #[.slice (some ⟨w2.heap.size + 1 + 1 + 1, 0, none⟩) nn nn] 23)).alloc (.cells #[.slice none 0 0] 23)) := ⟨_, rfl⟩
  have hz6 : W6.heap.size = w2.heap.size + 6 := by rw [hW6]; simp
  have hb6 : Below w2.heap.size w2 W6 := by rw [hW6]; exact bal (bal (bal (bal (bal (bal (Below.refl _ _) _) _) _) _) _) _
  obtain ⟨a0, a1, a2, a3, a4, a5⟩ := alloc6 w2 (.cells (madeCells #[.int .i64 0] R.length) 3) (.cells #[.slice (some ⟨w2.heap.size, 0, none⟩) R.length R.length] 23) (.cells (madeCells #[.slice none 0 0] (nn + 1)) 157) (.cells (madeCells #[.int .i64 0] nn) 3) (.cells #[.slice (some ⟨w2.heap.size + 1 + 1 + 1, 0, none⟩) nn nn] 23) (.cells #[.slice none 0 0] 23)
  rw [← hW6] at a0 a1 a2 a3 a4 a5
  have B0 : Blk W6 w2.heap.size ((List.replicate R.length 0).map (Value.int .i64)) 3 := by unfold Blk; rw [a0, made_list]; simp
  have B1 : Blk W6 (w2.heap.size + 1) [.slice (some ⟨w2.heap.size, 0, none⟩) R.length R.length] 23 := a1
  have B2 : Blk W6 (w2.heap.size + 1 + 1) (List.replicate (nn + 1) nilS) 157 := by unfold Blk; rw [a2, made_list]; rfl
  have B3 : Blk W6 (w2.heap.size + 1 + 1 + 1) ((List.replicate nn 0).map (Value.int .i64)) 3 := by unfold Blk; rw [a3, made_list]; simp
  have B4 : Blk W6 (w2.heap.size + 1 + 1 + 1 + 1) [.slice (some ⟨w2.heap.size + 1 + 1 + 1, 0, none⟩) nn nn] 23 := a4
  have B5 : Blk W6 (w2.heap.size + 1 + 1 + 1 + 1 + 1) [.slice none 0 0] 23 := a5
  clear a0 a1 a2 a3 a4 a5
  have B6 : Blk W6 w.heap.size [.slice ar R.length cr] 24 := (HBK.out.below hb2).below hb6
  have HW6 : Hid (Below w.heap.size w W6) := Lib.hid (bon (bon hal hb2) hb6)
  have k3 := B6.cell 0
  rw [← hW6]
  have hp0 : P1 R nn W6 w2.heap.size (w2.heap.size + 1 + 1) 0 (List.replicate R.length 0) (List.replicate (nn + 1) nilS) (usesU R 0) W6 :=
    ⟨.refl _ _ _, B0, by simp, fun j hj => absurd hj (Nat.not_lt_zero _), ⟨B2, by simp, fun a ha => by
      have e : (List.replicate (nn + 1) nilS).getD a nilS = nilS := by simp [List.getD_eq_getElem?_getD, List.getElem?_replicate]; split <;> rfl
      rw [e]; exact World.ownsRow_nil _ _ _ _, fun a a' g ha ha' h1 h2 => (by
      have e : (List.replicate (nn + 1) nilS).getD a nilS = nilS := by simp [List.getD_eq_getElem?_getD, List.getElem?_replicate]; split <;> rfl
      rw [e] at h1; cases h1), by omega, Nat.le_refl _⟩, by omega, by omega⟩
  have HP0 := Lib.hid hp0
  have HB1 := Lib.hid B1
  have HB3 := Lib.hid B3
  have HB4 := Lib.hid B4
  have HB5 := Lib.hid B5
  have HB6 := Lib.hid B6
  clear hW6 hp0 B0 B1 B2 B3 B4 B5 B6 hb6 hb2 hb2' hmk1 hmk2 hmk3 hal HBK HR
  go_wp2_with fail
  clear k3
  go_loopw [42] (fun i wx => R1 R nn W6 w2.heap.size (w2.heap.size + 1 + 1) i wx) (fun i _ => R.length - (intOf i).toNat)
  case atStart => exact ⟨0, Nat.zero_le _, rfl, _, _, HP0.out⟩
  case round =>
    obtain ⟨k, hk, rfl, nd, V, hp⟩ := hrel
    have HP := Lib.hid hp
    have HBR : Hid (Below w.heap.size w wr) := Lib.hid (hp.bel HW6.out (by omega) (by omega))
    have k3 := (hp.blk HB6.out (by omega) (by omega)).cell 0
    have k6 := (hp.blk HB1.out (by omega) (by omega)).cell 0
    have hz := hp.lim.size
    clear hp
    by_cases hlt : k < R.length
    · obtain ⟨b, off, hab, hbl, hc⟩ := HCR.out (by omega)
      subst hab
      obtain ⟨vh, vb, vw, ⟨r0, r1, r2, r3, r4, r5⟩, hsl⟩ := hc k hlt
      obtain ⟨x1, y1, rfl, -, g1, -, -⟩ := hsl.head.form
      obtain ⟨x2, y2, rfl, -, g2, -, -⟩ := hsl.body.form
      obtain ⟨x3, y3, rfl, -, g3, -, -⟩ := hsl.wts.form
      have kk := bcell HBR.out b
      have q0 := (kk _ hbl).trans r0
      have q1 := (kk _ hbl).trans r1
      have q2 := (kk _ hbl).trans r2
      have q3 := (kk _ hbl).trans r3
      have q4 := (kk _ hbl).trans r4
      have q5 := (kk _ hbl).trans r5
      have HSL := Lib.hid hsl
      clear kk r0 r1 r2 r3 r4 r5 hc hsl
      go_upto_region 11 with fail
      have hbr := Blk.new wr [.bool (ixR R k).choice, .slice x1 (ixR R k).head.length y1, .bool (ixR R k).sum, .int .i64 (ixR R k).bound, .slice x2 (ixR R k).body.length y2, .slice x3 (ixR R k).w.length y3] 60
      have hbx := bal (Below.refl wr.heap.size wr) (.cells #[.bool (ixR R k).choice, .slice x1 (ixR R k).head.length y1, .bool (ixR R k).sum, .int .i64 (ixR R k).bound, .slice x2 (ixR R k).body.length y2, .slice x3 (ixR R k).w.length y3] 60)
      have HRU := Lib.hid hbr
      have HP7 := Lib.hid (HP.out.below hbx)
      have hz7 : W6.heap.size ≤ wr.heap.size := hz
      clear hbr hbx q0 q1 q2 q3 q4 q5 k3 k6
      generalize wr.alloc (.cells #[.bool (ixR R k).choice, .slice x1 (ixR R k).head.length y1, .bool (ixR R k).sum, .int .i64 (ixR R k).bound, .slice x2 (ixR R k).body.length y2, .slice x3 (ixR R k).w.length y3] 60) = W7 at *
      have k6 := (HP7.out.blk HB1.out (by omega) (by omega)).cell 0
      have kn := (HP7.out.need.cell k).trans (mapI_at nd k (by have := HP7.out.len; omega))
      have fn := HP7.out.need.free k
      have kr := HRU.out.cell
      cases hs : (ixR R k).sum with
      | false =>
        go_upto_region 14 with fail
        have HP8 := Lib.hid ((HP7.out.setNeed ((ixR R k).body.length : Int)).next (by rw [ix_set _ _ _ _ (by have := HP7.out.len; omega), if_pos rfl]; unfold need0; rw [hs]; rfl))
        have HRU8 := Lib.hid (HRU.out.setOther k (.int .i64 ((ixR R k).body.length : Int)) (show wr.heap.size ≠ w2.heap.size by omega))
        have hbodyC := HSL.out.body.form
        obtain ⟨_, _, e9, -, -, -, hbodyC⟩ := hbodyC
        simp only [Value.slice.injEq, true_and] at e9
        obtain ⟨rfl, rfl⟩ := e9
        clear k6 kn fn kr HP7 HRU
        generalize W7.setCell ⟨w2.heap.size, k, none⟩ (.int .i64 ((ixR R k).body.length : Int)) = W8 at *
        obtain ⟨wo, rfl⟩ : ∃ wo : World, wo = wr := ⟨_, rfl⟩
        have kr8 := HRU8.out.cell
        go_wp2_with fail
        clear kr8
        go_loopw [63] (fun i wx => R2 R nn W6 w2.heap.size (w2.heap.size + 1 + 1) k wo.heap.size [.bool (ixR R k).choice, .slice x1 (ixR R k).head.length y1, .bool (ixR R k).sum, .int .i64 (ixR R k).bound, .slice x2 (ixR R k).body.length y2, .slice x3 (ixR R k).w.length y3] i wx) (fun i _ => (ixR R k).body.length - (intOf i).toNat)
        case atStart => exact ⟨0, Nat.zero_le _, rfl, _, _, HP8.out, HRU8.out⟩
        case round =>
          obtain ⟨q, hq, rfl, nd2, V2, hp2, hru2⟩ := hrel
          have HP2 := Lib.hid hp2
          have HRU2 := Lib.hid hru2
          have kr := hru2.cell
          have hz2r := hp2.lim.size
          have HBW := Lib.hid (hp2.bel HW6.out (by omega) (by omega))
          clear hp2 hru2
          by_cases hltq : q < (ixR R k).body.length
          · obtain ⟨bb, offb, rfl, hbb, hcb⟩ := hbodyC (by omega)
            have hbd := ((HD.out.body k hlt).1 q hltq)
            obtain ⟨an, han⟩ : ∃ an : Nat, ix (ixR R k).body q = an := ⟨(ix (ixR R k).body q).toNat, by omega⟩
            have han1 : an ≤ nn := by omega
            have kb := (bcell HBW.out _ _ hbb).trans (hcb q hltq)
            rw [han] at kb
            have HAN := Lib.hid han
            have HWO : Hid (wOf (ixR R k) q = 1) := Lib.hid (by unfold wOf; rw [hs]; rfl)
            have HW1 := Lib.hid (HD.out.w1 hlt hltq)
            skip
            have hal2 := bal (Below.refl wr.heap.size wr) (.cells #[.int .i64 k, .int .i64 (1)] 158)
            have HPA := Lib.hid (HP2.out.below hal2)
            obtain ⟨U, hU⟩ : ∃ U, U = stepU (usesU R k) (ixR R k) k q := ⟨_, rfl⟩
            have HUL : Hid ((U an).length ≤ 330000000) := Lib.hid (by
              have h1 := stepU_len (usesU R k) (ixR R k) k an q
              have h2 := usesU_len R an 8002 (fun i hi => (HD.out.body i hi).2) k (by omega)
              have h3 := (HD.out.body k hlt).2
              have h4 : k * 8002 ≤ 40000 * 8002 := Nat.mul_le_mul_right _ (by omega)
              rw [hU]; omega)
            have HSU : Hid (stepU (usesU R k) (ixR R k) k (q + 1) = fun b => if b = (an : Int) then U b ++ [((k : Int), 1)] else U b) := Lib.hid (by rw [hU]; funext b; show (if b = ix (ixR R k).body q then stepU (usesU R k) (ixR R k) k q b ++ [((k : Int), wOf (ixR R k) q)] else stepU (usesU R k) (ixR R k) k q b) = _; rw [HAN.out, HWO.out])
            rw [← hU] at HPA HP2
            have hlenU : ((U an).length + 1) * 16 ≤ 140737488351232 := by have := HUL.out; omega
            have ktab := HP2.out.uses.cell an han1
            obtain ⟨vr, hvr⟩ : ∃ vr, vr = V2.getD an nilS := ⟨_, rfl⟩
            rw [← hvr] at ktab
            have HVR := Lib.hid hvr
            have HROWA : Hid ((wr.alloc (.cells #[.int .i64 k, .int .i64 (1)] 158)).ownsRow W6.heap.size 158 2 vr (U an).length ((U an).flatMap cells2)) := Lib.hid (by rw [hvr]; exact HPA.out.uses.row an han1)
            have hbase : W6.heap.size ≤ (wr.alloc (.cells #[.int .i64 k, .int .i64 (1)] 158)).heap.size := by simp; omega
            clear hbd hcb hal2 hU hvr han
            go_wp2_with (at_builtin; go_loud (refine wpList_plain rfl (fun _ hK' => wp_appendU _ _ 157 Tryz.underlying157 rfl W6.heap.size vr (U an).length _ ((k : Int), 1) rfl HROWA.out wr.heap.size 1 rfl (Blk.new wr [.int .i64 k, .int .i64 (1)] _) hlenU hbase ?_)); intro g4 cap4 w4 hown4 hg4 hl4 hlt4; rw [HVR.out] at hg4 hl4; have hpp := HPA.out.push an han1 _ hown4 hg4 hl4; have kt4 := hpp.1.cell an; have ft4 := hpp.1.free an; rw [show V2[an]? = some vr from (by have := hpp.1.cell an; rw [HVR.out, List.getD_eq_getElem?_getD, List.getElem?_eq_getElem (by have := HP2.out.uses.len; omega)]; rfl)] at kt4; have HPP := Lib.hid hpp.2; have HRU4 : Hid (Blk w4 wo.heap.size [.bool (ixR R k).choice, .slice x1 (ixR R k).head.length y1, .bool (ixR R k).sum, .int .i64 (ixR R k).bound, .slice (some ⟨bb, offb, none⟩) (ixR R k).body.length y2, .slice _ (ixR R k).w.length y3] 60) := Lib.hid ((HRU2.out.alloc _).same (hg4.block _ (HRU2.out.alloc _).lt (fun e => absurd (rowTy (HPA.out.uses.row an han1) e.symm (HRU2.out.alloc _)) (by decide)))); clear hpp hown4 hg4 hl4 hlt4; refine hK' _ _ ?_)
            first
              | (go_roundw
                 case rel => (exact ⟨q + 1, by omega, by go_num, _, _, by rw [HSU.out]; exact HPP.out, HRU4.out.setOther _ _ (by omega)⟩)
                 case measure => (simp [intOf]; omega))
              | (refine ⟨?_, ?_⟩
                 · (exact ⟨q + 1, by omega, by go_num, _, _, by rw [HSU.out]; exact HPP.out, HRU4.out.setOther _ _ (by omega)⟩)
                 · (simp [intOf]; omega))
          · obtain rfl : q = (ixR R k).body.length := by omega
            go_wp2_with fail
            first
              | (go_roundw
                 case rel => (exact ⟨k + 1, by omega, by go_num, _, _, HP2.out⟩)
                 case measure => (simp [intOf]; omega))
              | (refine ⟨?_, ?_⟩
                 · (exact ⟨k + 1, by omega, by go_num, _, _, HP2.out⟩)
                 · (simp [intOf]; omega))
      | true =>
        go_upto_region 13 with fail
        have HP71 := Lib.hid (HP7.out.setNeed ((ixR R k).body.length : Int))
        have HRU71 := Lib.hid (HRU.out.setOther k (.int .i64 ((ixR R k).body.length : Int)) (show wr.heap.size ≠ w2.heap.size by omega))
        have hbodyC := HSL.out.body.form
        obtain ⟨_, _, e9, -, -, -, hbodyC⟩ := hbodyC
        simp only [Value.slice.injEq, true_and] at e9
        obtain ⟨rfl, rfl⟩ := e9
        have hwtsC := HSL.out.wts.form
        obtain ⟨_, _, e9, -, -, -, hwtsC⟩ := hwtsC
        simp only [Value.slice.injEq, true_and] at e9
        obtain ⟨rfl, rfl⟩ := e9
        clear k6 kn fn kr HP7 HRU
        generalize W7.setCell ⟨w2.heap.size, k, none⟩ (.int .i64 ((ixR R k).body.length : Int)) = W9 at *
        have k6 := (HP71.out.blk HB1.out (by omega) (by omega)).cell 0
        have kn := (HP71.out.need.cell k).trans (mapI_at _ k (by have := HP71.out.len; omega))
        have fn := HP71.out.need.free k
        have kr := HRU71.out.cell
        go_upto_region 14 with fail
        have HP8 := Lib.hid ((HP71.out.setNeed (ixR R k).bound).next (by rw [ix_set _ _ _ _ (by have := HP71.out.len; omega), if_pos rfl]; unfold need0; rw [hs]; rfl))
        have HRU8 := Lib.hid (HRU71.out.setOther k (.int .i64 (ixR R k).bound) (show wr.heap.size ≠ w2.heap.size by omega))
        clear k6 kn fn kr HP71 HRU71
        generalize W9.setCell ⟨w2.heap.size, k, none⟩ (.int .i64 (ixR R k).bound) = W8 at *
        obtain ⟨wo, rfl⟩ : ∃ wo : World, wo = wr := ⟨_, rfl⟩
        have kr8 := HRU8.out.cell
        go_wp2_with fail
        clear kr8
        go_loopw [63] (fun i wx => R2 R nn W6 w2.heap.size (w2.heap.size + 1 + 1) k wo.heap.size [.bool (ixR R k).choice, .slice x1 (ixR R k).head.length y1, .bool (ixR R k).sum, .int .i64 (ixR R k).bound, .slice x2 (ixR R k).body.length y2, .slice x3 (ixR R k).w.length y3] i wx) (fun i _ => (ixR R k).body.length - (intOf i).toNat)
        case atStart => exact ⟨0, Nat.zero_le _, rfl, _, _, HP8.out, HRU8.out⟩
        case round =>
          obtain ⟨q, hq, rfl, nd2, V2, hp2, hru2⟩ := hrel
          have HP2 := Lib.hid hp2
          have HRU2 := Lib.hid hru2
          have kr := hru2.cell
          have hz2r := hp2.lim.size
          have HBW := Lib.hid (hp2.bel HW6.out (by omega) (by omega))
          clear hp2 hru2
          by_cases hltq : q < (ixR R k).body.length
          · obtain ⟨bb, offb, rfl, hbb, hcb⟩ := hbodyC (by omega)
            have hbd := ((HD.out.body k hlt).1 q hltq)
            obtain ⟨an, han⟩ : ∃ an : Nat, ix (ixR R k).body q = an := ⟨(ix (ixR R k).body q).toNat, by omega⟩
            have han1 : an ≤ nn := by omega
            have kb := (bcell HBW.out _ _ hbb).trans (hcb q hltq)
            rw [han] at kb
            have HAN := Lib.hid han
            have HWO : Hid (wOf (ixR R k) q = ix (ixR R k).w q) := Lib.hid (by unfold wOf; rw [hs]; rfl)
            have HW1 := Lib.hid (HD.out.w1 hlt hltq)
            obtain ⟨bw, offw, rfl, hbw3, hcw⟩ := hwtsC (by have := HW1.out.2.2 hs; omega); have hqw := HW1.out.2.2 hs; have kw := (bcell HBW.out _ _ hbw3).trans (hcw q hqw)
            have hal2 := bal (Below.refl wr.heap.size wr) (.cells #[.int .i64 k, .int .i64 (ix (ixR R k).w q)] 158)
            have HPA := Lib.hid (HP2.out.below hal2)
            obtain ⟨U, hU⟩ : ∃ U, U = stepU (usesU R k) (ixR R k) k q := ⟨_, rfl⟩
            have HUL : Hid ((U an).length ≤ 330000000) := Lib.hid (by
              have h1 := stepU_len (usesU R k) (ixR R k) k an q
              have h2 := usesU_len R an 8002 (fun i hi => (HD.out.body i hi).2) k (by omega)
              have h3 := (HD.out.body k hlt).2
              have h4 : k * 8002 ≤ 40000 * 8002 := Nat.mul_le_mul_right _ (by omega)
              rw [hU]; omega)
            have HSU : Hid (stepU (usesU R k) (ixR R k) k (q + 1) = fun b => if b = (an : Int) then U b ++ [((k : Int), ix (ixR R k).w q)] else U b) := Lib.hid (by rw [hU]; funext b; show (if b = ix (ixR R k).body q then stepU (usesU R k) (ixR R k) k q b ++ [((k : Int), wOf (ixR R k) q)] else stepU (usesU R k) (ixR R k) k q b) = _; rw [HAN.out, HWO.out])
            rw [← hU] at HPA HP2
            have hlenU : ((U an).length + 1) * 16 ≤ 140737488351232 := by have := HUL.out; omega
            have ktab := HP2.out.uses.cell an han1
            obtain ⟨vr, hvr⟩ : ∃ vr, vr = V2.getD an nilS := ⟨_, rfl⟩
            rw [← hvr] at ktab
            have HVR := Lib.hid hvr
            have HROWA : Hid ((wr.alloc (.cells #[.int .i64 k, .int .i64 (ix (ixR R k).w q)] 158)).ownsRow W6.heap.size 158 2 vr (U an).length ((U an).flatMap cells2)) := Lib.hid (by rw [hvr]; exact HPA.out.uses.row an han1)
            have hbase : W6.heap.size ≤ (wr.alloc (.cells #[.int .i64 k, .int .i64 (ix (ixR R k).w q)] 158)).heap.size := by simp; omega
            clear hbd hcb hal2 hU hvr han
            go_wp2_with (at_builtin; go_loud (refine wpList_plain rfl (fun _ hK' => wp_appendU _ _ 157 Tryz.underlying157 rfl W6.heap.size vr (U an).length _ ((k : Int), ix (ixR R k).w q) rfl HROWA.out wr.heap.size 1 rfl (Blk.new wr [.int .i64 k, .int .i64 (ix (ixR R k).w q)] _) hlenU hbase ?_)); intro g4 cap4 w4 hown4 hg4 hl4 hlt4; rw [HVR.out] at hg4 hl4; have hpp := HPA.out.push an han1 _ hown4 hg4 hl4; have kt4 := hpp.1.cell an; have ft4 := hpp.1.free an; rw [show V2[an]? = some vr from (by have := hpp.1.cell an; rw [HVR.out, List.getD_eq_getElem?_getD, List.getElem?_eq_getElem (by have := HP2.out.uses.len; omega)]; rfl)] at kt4; have HPP := Lib.hid hpp.2; have HRU4 : Hid (Blk w4 wo.heap.size [.bool (ixR R k).choice, .slice x1 (ixR R k).head.length y1, .bool (ixR R k).sum, .int .i64 (ixR R k).bound, .slice (some ⟨bb, offb, none⟩) (ixR R k).body.length y2, .slice _ (ixR R k).w.length y3] 60) := Lib.hid ((HRU2.out.alloc _).same (hg4.block _ (HRU2.out.alloc _).lt (fun e => absurd (rowTy (HPA.out.uses.row an han1) e.symm (HRU2.out.alloc _)) (by decide)))); clear hpp hown4 hg4 hl4 hlt4; refine hK' _ _ ?_)
            first
              | (go_roundw
                 case rel => (exact ⟨q + 1, by omega, by go_num, _, _, by rw [HSU.out]; exact HPP.out, HRU4.out.setOther _ _ (by omega)⟩)
                 case measure => (simp [intOf]; omega))
              | (refine ⟨?_, ?_⟩
                 · (exact ⟨q + 1, by omega, by go_num, _, _, by rw [HSU.out]; exact HPP.out, HRU4.out.setOther _ _ (by omega)⟩)
                 · (simp [intOf]; omega))
          · obtain rfl : q = (ixR R k).body.length := by omega
            go_wp2_with fail
            first
              | (go_roundw
                 case rel => (exact ⟨k + 1, by omega, by go_num, _, _, HP2.out⟩)
                 case measure => (simp [intOf]; omega))
              | (refine ⟨?_, ?_⟩
                 · (exact ⟨k + 1, by omega, by go_num, _, _, HP2.out⟩)
                 · (simp [intOf]; omega))
    · obtain rfl : k = R.length := by omega
      have hnd := HP.out.len
      have hfx : RFx R (nn : Int) w wr w2.heap.size (w2.heap.size + 1 + 1 + 1) (w2.heap.size + 1 + 1 + 1 + 1 + 1) (w2.heap.size + 1) w.heap.size (w2.heap.size + 1 + 1 + 1 + 1) ar cr :=
        ⟨HP.out.blk HB1.out (by omega) (by omega), by rw [Int.toNat_natCast]; exact HP.out.blk HB4.out (by omega) (by omega), HP.out.blk HB6.out (by omega) (by omega), HR0.out, HBR.out, by omega, by omega, by omega⟩
      have hst : RSt wr w2.heap.size (w2.heap.size + 1 + 1 + 1) (w2.heap.size + 1 + 1 + 1 + 1 + 1) nd (List.replicate nn 0) [] wr :=
        ⟨.refl _ _ _, HP.out.need, HP.out.blk HB3.out (by omega) (by omega), none, 0, HP.out.blk HB5.out (by omega) (by omega), QRow.nil _ _⟩
      have hlv : Lv nn R [] [] (List.replicate nn 0) nd := ⟨by simp, by simp, by simp, hnd, fun x h1 h2 => by
        have : ix (List.replicate nn 0) (x - 1).toNat = 0 := by unfold ix; rw [List.getD_eq_getElem?_getD, List.getElem?_replicate]; split <;> rfl
        rw [this]; simp, by simp⟩
      have hpd : Paid R [] nd := fun i hi => by rw [HP.out.val i hi]; unfold lhs; rw [lhsTo_nil]; omega
      have HFX := Lib.hid hfx
      have HST0 := Lib.hid hst
      have HLV0 := Lib.hid hlv
      have HPD := Lib.hid hpd
      have HUT := Lib.hid HP.out.uses
      have hask : Asked R ([] ++ ([] : List Int)) nd (fun j => 0 ≤ j) := fun i hi h0 => .inr (Nat.zero_le _)
      have HASK := Lib.hid hask
      clear hfx hst hlv hpd hask HP HP0 HB1 HB3 HB4 HB5 HB6 HCR k6 hlt
      go_wp2_with fail
      clear k3
      obtain ⟨w1, rfl⟩ : ∃ wo : World, wo = wr := ⟨_, rfl⟩
      go_loopw [91] (fun i wx => R3' R nn w1 w2.heap.size (w2.heap.size + 1 + 1 + 1) (w2.heap.size + 1 + 1 + 1 + 1 + 1) nd i wx) (fun i _ => R.length - (intOf i).toNat)
      case atStart => exact ⟨0, Nat.zero_le _, rfl, _, _, HST0.out, HLV0.out, HASK.out⟩
      case round =>
        obtain ⟨k, hk, rfl, od, l, hst, hlv, hask⟩ := hrel
        have HST := Lib.hid hst
        have HLV := Lib.hid hlv
        have HASK := Lib.hid hask
        have hol := hlv.olen
        have hll : l.length ≤ 4000 := by have := hlv.short hrng.1; simp at this; omega
        clear hst hlv hask HST0 HLV0
        by_cases hlt : k < R.length
        · go_wp2_with (go_at_call 132; (with_reducible refine (reach_any HD.out HFX.out HST.out hnd hol hll k hlt 1).mono ?_); rintro e w5 ⟨rfl, od5, l5, hst5, hrp5⟩; have HST5 := Lib.hid hst5; have HRP := Lib.hid hrp5; clear hst5 hrp5)
          have hre := HLV.out.reach HD.out HPD.out hlt (by omega) HRP.out
          first
            | (go_roundw
               case rel => (exact ⟨k + 1, by omega, by go_num, _, _, HST5.out, hre.1, HASK.out.reach hre.2.1 hre.2.2 (fun j hj => by omega)⟩)
               case measure => (simp [intOf]; omega))
            | (refine ⟨?_, ?_⟩
               · (exact ⟨k + 1, by omega, by go_num, _, _, HST5.out, hre.1, HASK.out.reach hre.2.1 hre.2.2 (fun j hj => by omega)⟩)
               · (simp [intOf]; omega))
        · obtain rfl : k = R.length := by omega
          go_wp2_with fail
          have HASKF : Hid (Asked R ([] ++ l) nd (fun _ => False)) := Lib.hid (fun i hi h0 => (HASK.out i hi h0).imp id (fun h => by omega))
          clear HASK
          go_loopg [17] nn (fun g r wx => R4' R nn w1 w2.heap.size (w2.heap.size + 1 + 1 + 1) (w2.heap.size + 1 + 1 + 1 + 1 + 1) g r wx)
          case atStart => exact ⟨[], _, _, _, 2, by simp, rfl, by omega, by simp, HST.out, HLV.out, HPD.out, HASKF.out⟩
          case round =>
            obtain ⟨C, L, od, nd, rd, hg, rfl, hr1, hr2, hst, hlv, hpd, hask⟩ := hrel
            have HST := Lib.hid hst
            have HLV := Lib.hid hlv
            have HPD := Lib.hid hpd
            have HASK := Lib.hid hask
            obtain ⟨an, cn, hbn, hqn⟩ := hst.now
            have k9 := hbn.cell 0
            have hzw := hst.lim.size
            have hsh := hlv.short hrng.1
            rw [List.length_append, Int.toNat_natCast] at hsh
            have HQN := Lib.hid hqn
            have hnl := hlv.nlen
            have hol := hlv.olen
            clear hst hlv hpd hask hqn
            by_cases hL : L.length = 0
            · have HL0 : Hid (L = []) := Lib.hid (List.eq_nil_of_length_eq_zero hL)
              have k8 := ((HFX.out.at HST.out).2.1).cell 0
              rw [Int.toNat_natCast] at k8
              go_wp2_with fail
              refine bodyPost_ret (v := .tuple #[.slice (some ⟨w2.heap.size + 1 + 1 + 1, 0, none⟩) nn nn, .int .i64 0]) ?_ rfl ?_
              · simp [results, Tryz.results82, go_sem]
              · have hz8 := HFX.out.lt.2.1
                have hlv := HLV.out
                rw [HL0.out] at hlv
                have hfit : ∀ i, 0 ≤ ix od i ∧ ix od i ≤ 4000000 := fun i => by
                  by_cases hi : i < od.length
                  · have := (hlv.out ((i : Int) + 1) (by omega) (by omega)).2
                    rw [show ((i : Int) + 1 - 1).toNat = i by omega] at this
                    exact this
                  · have : ix od i = 0 := by unfold ix; rw [List.getD_eq_getElem?_getD, List.getElem?_eq_none (by omega)]; rfl
                    rw [this]; omega
                have hlast := hlv.done HPD.out (by have := HASK.out; rw [HL0.out, List.append_nil] at this; exact this)
                rw [Int.toNat_natCast] at hlast
                have hob := HST.out.out
                refine ⟨od, _, _, rfl, ⟨fun i => by have := hfit i; omega, .inr ⟨w2.heap.size + 1 + 1 + 1, 0, nn, (od.map (Value.int .i64)).toArray, by rw [show od.length = nn by omega], by omega, hob, by omega, by unfold maxLen; omega, by simp; omega, fun i hi => by rw [Nat.zero_add, List.getElem?_toArray]; exact mapI_at od i hi⟩⟩, by omega, fun i => (hfit i).1, hlast, (HFX.out.at HST.out).2.2.2⟩
            · have hL1 : 0 < L.length := by omega
              have kf9 := hbn.free 0
              have hb2c := HST.out.clear (⟨HFX.out.ne.2.1, HFX.out.ne.2.2.1⟩ : _ ∧ _)
              have HBACK : Hid (∀ nd' od' l' wy, RSt (wr.setCell ⟨w2.heap.size + 1 + 1 + 1 + 1 + 1, 0, none⟩ (.slice none 0 0)) w2.heap.size (w2.heap.size + 1 + 1 + 1) (w2.heap.size + 1 + 1 + 1 + 1 + 1) nd' od' l' wy → RSt w1 w2.heap.size (w2.heap.size + 1 + 1 + 1) (w2.heap.size + 1 + 1 + 1 + 1 + 1) nd' od' l' wy) := Lib.hid (fun _ _ _ _ k => HST.out.back k)
              have HST2 := Lib.hid hb2c
              have HFX2 := Lib.hid (HFX.out.clear HST.out (.slice none 0 0))
              have HUT2 := Lib.hid ((HUT.out.lim HST.out.lim (by omega) (by omega)).kept (w' := wr.setCell ⟨w2.heap.size + 1 + 1 + 1 + 1 + 1, 0, none⟩ (.slice none 0 0)) (by simp [World.setCell]) (fun i hi _ => Below.heap_setCell _ _ _ _ (show i ≠ w2.heap.size + 1 + 1 + 1 + 1 + 1 by omega)))
              have hlast := (QRow.kept (w' := wr.setCell ⟨w2.heap.size + 1 + 1 + 1 + 1 + 1, 0, none⟩ (.slice none 0 0)) HQN.out (fun i hi _ _ => Below.heap_setCell _ _ _ _ (show i ≠ w2.heap.size + 1 + 1 + 1 + 1 + 1 by have := HFX.out.lt; omega))).ints (by omega)
              obtain ⟨_, _, e9, -, -, -, hlastC⟩ := hlast.form
              simp only [Value.slice.injEq, true_and] at e9
              obtain ⟨rfl, rfl⟩ := e9
              obtain ⟨bl, offl, rfl, hbl, hlc⟩ := hlastC hL1
              go_upto_region 33 with fail
              have hblo := HQN.out.lo
              have HLC : Hid (∀ wx, Lim (wr.setCell ⟨w2.heap.size + 1 + 1 + 1 + 1 + 1, 0, none⟩ (.slice none 0 0)).heap.size [w2.heap.size, w2.heap.size + 1 + 1 + 1, w2.heap.size + 1 + 1 + 1 + 1 + 1] (wr.setCell ⟨w2.heap.size + 1 + 1 + 1 + 1 + 1, 0, none⟩ (.slice none 0 0)) wx → ∀ j, j < L.length → wx.cell? ⟨bl, offl + j, none⟩ = some (.int .i64 (ix L j))) := Lib.hid (fun wx hlm j hj => (World.cell?_of_block (a := ⟨bl, offl + j, none⟩) (hlm.block bl hbl (by simp only [List.mem_cons, List.not_mem_nil, or_false]; have := HFX.out.lt; omega))).trans (hlc j hj))
              clear hb2c hlast hlastC hlc k9 kf9 hbn HST HQN
              generalize wr.setCell ⟨w2.heap.size + 1 + 1 + 1 + 1 + 1, 0, none⟩ (.slice none 0 0) = W2 at *
              go_wp2_with fail
              go_loopw [106] (fun i wx => R5' R W2 w2.heap.size (w2.heap.size + 1 + 1 + 1) (w2.heap.size + 1 + 1 + 1 + 1 + 1) C L od i wx) (fun i _ => L.length - (intOf i).toNat)
              case atStart => exact ⟨0, Nat.zero_le _, rfl, nd, hnl, HST2.out, by rw [List.take_zero, List.append_nil]; exact HPD.out⟩
              case round =>
                obtain ⟨j, hj, rfl, nd5, hnl5, hst5, hpd5⟩ := hrel
                have HST5 := Lib.hid hst5
                have HPD5 := Lib.hid hpd5
                have hz5 := hst5.lim.size
                clear hst5 hpd5
                by_cases hltj : j < L.length
                · have kl := HLC.out _ HST5.out.lim j hltj
                  have hlr := HLV.out.at hltj
                  obtain ⟨an, han⟩ : ∃ an : Nat, ix L j = an := ⟨(ix L j).toNat, by omega⟩
                  have hfr := HLV.out.fresh hltj
                  rw [han] at kl hfr
                  have han1 : an ≤ nn := by omega
                  have HAN := Lib.hid han
                  have HFR := Lib.hid hfr
                  have HUT5 := Lib.hid (HUT2.out.lim HST5.out.lim (by omega) (by have := HUT2.out.lo; omega))
                  have ktab := HUT5.out.cell an han1
                  obtain ⟨ad, capd, hV, hcellU⟩ := HUT5.out.at an han1
                  rw [hV] at ktab
                  have HV := Lib.hid hV
                  have hULn : (usesU R R.length an).length ≤ 330000000 := by
                    have h2 := usesU_len R an 8002 (fun i hi => (HD.out.body i hi).2) R.length (Nat.le_refl _)
                    have h4 : R.length * 8002 ≤ 40000 * 8002 := Nat.mul_le_mul_right _ (by omega)
                    omega
                  clear han hfr hV hlr hcellU
                  go_wp2_with fail
                  clear kl ktab
                  obtain ⟨wo5, rfl⟩ : ∃ wo : World, wo = wr := ⟨_, rfl⟩
                  go_loopw [115] (fun i wx => R6' R W2 w2.heap.size (w2.heap.size + 1 + 1 + 1) (w2.heap.size + 1 + 1 + 1 + 1 + 1) (C ++ L.take j) od an i wx) (fun i _ => (usesU R R.length an).length - (intOf i).toNat)
                  case atStart => exact ⟨0, Nat.zero_le _, rfl, nd5, hnl5, HST5.out, fun i hi => by rw [HPD5.out i hi, List.take_zero]; simp [sumAt]⟩
                  case round =>
                    obtain ⟨q, hq, rfl, nd6, hnl6, hst6, hpd6⟩ := hrel
                    have HST6 := Lib.hid hst6
                    have HPD6 := Lib.hid hpd6
                    have hz6' := hst6.lim.size
                    have HUT6 := Lib.hid (HUT2.out.lim hst6.lim (by omega) (by have := HUT2.out.lo; omega))
                    clear hst6 hpd6
                    by_cases hltq : q < (usesU R R.length an).length
                    · obtain ⟨_, _, e9, hcellU⟩ := HUT6.out.at an han1
                      rw [HV.out] at e9
                      simp only [Value.slice.injEq, true_and] at e9
                      obtain ⟨rfl, rfl⟩ := e9
                      obtain ⟨gu, rfl, hgu1, hgu2, ku1, ku2⟩ := hcellU q hltq
                      obtain ⟨ui, uk, hui, huk, hue, hup⟩ : ∃ i k : Nat, i < R.length ∧ k < (ixR R i).body.length ∧ ix (ixR R i).body k = an ∧ (usesU R R.length an).getD q (0, 0) = ((i : Int), wOf (ixR R i) k) := by
                        have : (usesU R R.length an).getD q (0, 0) ∈ usesU R R.length an := by rw [List.getD_eq_getElem?_getD, List.getElem?_eq_getElem hltq]; exact List.getElem_mem hltq
                        exact (usesU_mem _).1 this
                      have HUP := Lib.hid hup
                      rw [hup] at ku1 ku2
                      simp only at ku1 ku2
                      have hwb := HD.out.w1 hui huk
                      generalize wOf (ixR R ui) uk = uw at *
                      clear hue huk hup hcellU
                      go_upto_region 39 with fail
                      have hbu := Blk.new wr [.int .i64 ui, .int .i64 uw] 158
                      have hbx := bal (Below.refl wr.heap.size wr) (.cells #[.int .i64 ui, .int .i64 uw] 158)
                      have HBU := Lib.hid hbu
                      have HST9 := Lib.hid (HST6.out.on hbx)
                      clear hbu hbx ku1 ku2
                      generalize wr.alloc (.cells #[.int .i64 ui, .int .i64 uw] 158) = W9 at *
                      obtain ⟨g6, -, -, -⟩ := HFX2.out.at HST9.out
                      have hndl : ui < nd6.length := by omega
                      have k6 : ∀ e : Ext W9, e.world.cell? ⟨w2.heap.size + 1, 0, none⟩ = some (.slice (some ⟨w2.heap.size, 0, none⟩) R.length R.length) := fun e => (bcell e.below _ _ g6.lt).trans (g6.cell 0)
                      have ku1 : ∀ e : Ext W9, e.world.cell? ⟨wr.heap.size, 0, none⟩ = some (.int .i64 ui) := fun e => (bcell e.below _ _ HBU.out.lt).trans (HBU.out.cell 0)
                      have ku2 : ∀ e : Ext W9, e.world.cell? ⟨wr.heap.size, 1, none⟩ = some (.int .i64 uw) := fun e => (bcell e.below _ _ HBU.out.lt).trans (HBU.out.cell 1)
                      have kn : ∀ e : Ext W9, e.world.cell? ⟨w2.heap.size, ui, none⟩ = some (.int .i64 (ix nd6 ui)) := fun e => (bcell e.below _ _ HST9.out.need.lt).trans ((HST9.out.need.cell ui).trans (mapI_at nd6 ui hndl))
                      have hpart := HD.out.part HFR.out hui q
                      have hpd6 := HPD6.out ui hui
                      have hwr : IntKind.i64.wrap (ix nd6 ui - uw) = ix nd6 ui - uw := by rw [IntKind.wrap_i64]; omega
                      clear g6 hpart hpd6
                      refine wp_region_tail' 9 (fun _ => True) (fun _ _ _ _ _ _ => False) (fun _ => false) (by kernel_rfl) (by kernel_rfl) (by kernel_rfl) (fun _ _ => trivial) (fun _ _ _ _ _ _ _ h _ => h) ?_
                      simp only [List.take_succ_cons, List.take_zero, List.drop_succ_cons, List.drop_zero]
                      iterate 9 (refine walkP_head (by kernel_rfl) rfl rfl rfl (fun K hK => ?_); go_big_quiet_op; refine hK _ ?_; clear hK K)
                      intro wy hby hF hI hP
                      clear hF hI hP
                      have hsy := HST9.out.on hby
                      have ky := (hsy.need.cell ui).trans (mapI_at nd6 ui hndl)
                      have fy := hsy.need.free ui
                      have HSY := Lib.hid (hsy.setNeed (⟨by omega, by omega⟩ : _ ∧ _) (by have := HFX2.out.lt; omega) ui (ix nd6 ui - uw))
                      clear hsy hby k6 ku1 ku2 kn
                      refine ⟨rfl, rfl, ?_⟩
                      go_simp
                      simp only [tailW]
                      go_wp2_with fail
                      first
                        | (go_roundw
                           case rel => (exact ⟨q + 1, by omega, by go_num, nd6.set ui (ix nd6 ui - uw), by simpa using hnl6, HSY.out, pay_step hltq HUP.out hndl HPD6.out⟩)
                           case measure => (simp [intOf]; omega))
                        | (refine ⟨?_, ?_⟩
                           · (exact ⟨q + 1, by omega, by go_num, nd6.set ui (ix nd6 ui - uw), by simpa using hnl6, HSY.out, pay_step hltq HUP.out hndl HPD6.out⟩)
                           · (simp [intOf]; omega))
                    · obtain rfl : q = (usesU R R.length an).length := by omega
                      go_wp2_with fail
                      first
                        | (go_roundw
                           case rel => (exact ⟨j + 1, by omega, by go_num, nd6, hnl6, HST6.out, by rw [take_push L j hltj, HAN.out]; exact paid_push HFR.out (fun i hi => by have := HPD6.out i hi; rw [List.take_length] at this; exact this)⟩)
                           case measure => (simp [intOf]; omega))
                        | (refine ⟨?_, ?_⟩
                           · (exact ⟨j + 1, by omega, by go_num, nd6, hnl6, HST6.out, by rw [take_push L j hltj, HAN.out]; exact paid_push HFR.out (fun i hi => by have := HPD6.out i hi; rw [List.take_length] at this; exact this)⟩)
                           · (simp [intOf]; omega))
                · obtain rfl : j = L.length := by omega
                  have HPD7 : Hid (Paid R (C ++ L) nd5) := Lib.hid (by have := HPD5.out; rw [List.take_length] at this; exact this)
                  have HLV7 := Lib.hid (HLV.out.turn hnl5)
                  have HASK7 : Hid (Asked R ((C ++ L) ++ []) nd5 (Todo R L 0)) := Lib.hid (by rw [List.append_nil]; exact Asked.pay HPD.out HPD7.out HASK.out)
                  clear HPD5
                  go_wp2_with fail
                  go_loopw [132] (fun i wx => R7' R nn W2 w2.heap.size (w2.heap.size + 1 + 1 + 1) (w2.heap.size + 1 + 1 + 1 + 1 + 1) C L nd5 (fun j => Todo R L j) L.length i wx) (fun i _ => L.length - (intOf i).toNat)
                  case atStart => exact ⟨0, Nat.zero_le _, rfl, _, _, HST5.out, HLV7.out, HASK7.out⟩
                  case round =>
                    obtain ⟨j, hj, rfl, od7, l7, hst7, hlv7, hask7⟩ := hrel
                    have HST7 := Lib.hid hst7
                    have HLV8 := Lib.hid hlv7
                    have HASK8 := Lib.hid hask7
                    have hz7 := hst7.lim.size
                    clear hst7 hlv7 hask7
                    by_cases hltj : j < L.length
                    · have kl := HLC.out _ HST7.out.lim j hltj
                      have hlr := HLV.out.at hltj
                      obtain ⟨an, han⟩ : ∃ an : Nat, ix L j = an := ⟨(ix L j).toNat, by omega⟩
                      rw [han] at kl
                      have han1 : an ≤ nn := by omega
                      have HAN := Lib.hid han
                      have HUT5 := Lib.hid (HUT2.out.lim HST7.out.lim (by omega) (by have := HUT2.out.lo; omega))
                      have ktab := HUT5.out.cell an han1
                      obtain ⟨ad, capd, hV, -⟩ := HUT5.out.at an han1
                      rw [hV] at ktab
                      have HV := Lib.hid hV
                      have hULn : (usesU R R.length an).length ≤ 330000000 := by
                        have h2 := usesU_len R an 8002 (fun i hi => (HD.out.body i hi).2) R.length (Nat.le_refl _)
                        have h4 : R.length * 8002 ≤ 40000 * 8002 := Nat.mul_le_mul_right _ (by omega)
                        omega
                      have HOP : Hid (Asked R ((C ++ L) ++ l7) nd5 (Todo2 R L j 0)) := Lib.hid (fun i hi h0 => (HASK8.out i hi h0).imp id (fun h => h.open))
                      clear han hV hlr
                      go_wp2_with fail
                      clear kl ktab
                      obtain ⟨wo7, rfl⟩ : ∃ wo : World, wo = wr := ⟨_, rfl⟩
                      go_loopw [141] (fun i wx => R7' R nn W2 w2.heap.size (w2.heap.size + 1 + 1 + 1) (w2.heap.size + 1 + 1 + 1 + 1 + 1) C L nd5 (fun q => Todo2 R L j q) (usesU R R.length an).length i wx) (fun i _ => (usesU R R.length an).length - (intOf i).toNat)
                      case atStart => exact ⟨0, Nat.zero_le _, rfl, _, _, HST7.out, HLV8.out, HOP.out⟩
                      case round =>
                        obtain ⟨q, hq, rfl, od8, l8, hst8, hlv8, hask8⟩ := hrel
                        have HST8 := Lib.hid hst8
                        have HLV9 := Lib.hid hlv8
                        have HASK9 := Lib.hid hask8
                        have hol8 := hlv8.olen
                        have hll8 : l8.length ≤ 4000 := by have := hlv8.short hrng.1; rw [List.length_append, Int.toNat_natCast] at this; omega
                        have HUT6 := Lib.hid (HUT2.out.lim hst8.lim (by omega) (by have := HUT2.out.lo; omega))
                        clear hst8 hlv8 hask8
                        by_cases hltq : q < (usesU R R.length an).length
                        · obtain ⟨_, _, e9, hcellU⟩ := HUT6.out.at an han1
                          rw [HV.out] at e9
                          simp only [Value.slice.injEq, true_and] at e9
                          obtain ⟨rfl, rfl⟩ := e9
                          obtain ⟨gu, rfl, hgu1, hgu2, ku1, ku2⟩ := hcellU q hltq
                          obtain ⟨ui, uk, hui, huk, hue, hup⟩ : ∃ i k : Nat, i < R.length ∧ k < (ixR R i).body.length ∧ ix (ixR R i).body k = an ∧ (usesU R R.length an).getD q (0, 0) = ((i : Int), wOf (ixR R i) k) := by
                            have : (usesU R R.length an).getD q (0, 0) ∈ usesU R R.length an := by rw [List.getD_eq_getElem?_getD, List.getElem?_eq_getElem hltq]; exact List.getElem_mem hltq
                            exact (usesU_mem _).1 this
                          have HUP := Lib.hid hup
                          rw [hup] at ku1 ku2
                          simp only at ku1 ku2
                          generalize wOf (ixR R ui) uk = uw at *
                          clear hue huk hup hcellU
                          go_upto_region 48 with fail
                          have hbu := Blk.new wr [.int .i64 ui, .int .i64 uw] 158
                          have hbx := bal (Below.refl wr.heap.size wr) (.cells #[.int .i64 ui, .int .i64 uw] 158)
                          have HST9 := Lib.hid (HST8.out.on hbx)
                          have ku1 := hbu.cell 0
                          clear hbu hbx ku2
                          generalize wr.alloc (.cells #[.int .i64 ui, .int .i64 uw] 158) = W9 at *
                          go_wp2_with (go_at_call 132; (with_reducible refine (reach_any HD.out HFX2.out HST9.out hnl5 hol8 hll8 ui hui rd).mono ?_); rintro e w5 ⟨rfl, od5, l5, hst5, hrp5⟩; have HST5 := Lib.hid hst5; have HRP := Lib.hid hrp5; clear hst5 hrp5)
                          have hre := HLV9.out.reach HD.out HPD7.out hui (by omega) HRP.out
                          have hasked : Asked R ((C ++ L) ++ l5) nd5 (Todo2 R L j (q + 1)) := HASK9.out.reach hre.2.1 hre.2.2 (fun i hi => by
                            rcases hi with ⟨q', h1, h2, h3⟩ | hi
                            · by_cases e : q' = q
                              · subst e
                                rw [HAN.out, HUP.out] at h3
                                exact .inl (by simp only at h3; omega)
                              · exact .inr (.inl ⟨q', by omega, h2, h3⟩)
                            · exact .inr (.inr hi))
                          first
                            | (go_roundw
                               case rel => (exact ⟨q + 1, by omega, by go_num, _, _, HST5.out, hre.1, hasked⟩)
                               case measure => (simp [intOf]; omega))
                            | (refine ⟨?_, ?_⟩
                               · (exact ⟨q + 1, by omega, by go_num, _, _, HST5.out, hre.1, hasked⟩)
                               · (simp [intOf]; omega))
                        · obtain rfl : q = (usesU R R.length an).length := by omega
                          go_wp2_with fail
                          first
                            | (go_roundw
                               case rel => (exact ⟨j + 1, by omega, by go_num, _, _, HST8.out, HLV9.out, fun i hi h0 => (HASK9.out i hi h0).imp id (fun h => by rw [← HAN.out] at h; exact h.close)⟩)
                               case measure => (simp [intOf]; omega))
                            | (refine ⟨?_, ?_⟩
                               · (exact ⟨j + 1, by omega, by go_num, _, _, HST8.out, HLV9.out, fun i hi h0 => (HASK9.out i hi h0).imp id (fun h => by rw [← HAN.out] at h; exact h.close)⟩)
                               · (simp [intOf]; omega))
                    · obtain rfl : j = L.length := by omega
                      have hsh8 := HLV8.out.short hrng.1
                      rw [List.length_append, List.length_append, Int.toNat_natCast] at hsh8
                      go_wp2_with fail
                      go_roundg (gk - L.length)
                      case measure => omega
                      case rel => exact ⟨C ++ L, l7, od7, nd5, rd + 1, by rw [List.length_append]; omega, by go_num, by omega, by rw [List.length_append]; push_cast; omega, HBACK.out _ _ _ _ HST7.out, HLV8.out, HPD7.out, fun i hi h0 => (HASK8.out i hi h0).imp id (fun h => h.none)⟩
end Go.Proofs.YtfajkmmmmmfhiaaGreatDoor
namespace Go.Proofs.YtfajkmmmmmfhiaaGreatDoor
open Go.RowKit
def LeastPost (R : List GR) (nn : Nat) (w : World) (e : Ending) (w' : World) : Prop :=
  ∃ M ao co, e = .returned (.tuple #[.slice ao M.length co, .int .i64 0]) ∧ QRow w.heap.size w' (.slice ao M.length co) M ∧ IsLeast R M ∧ M.Pairwise (· < ·) ∧ (∀ x ∈ M, 1 ≤ x ∧ x ≤ nn) ∧ M.length ≤ nn ∧ Below w.heap.size w w'
def LsRel (od : List Int) (nn : Nat) (w1 : World) (v i : Value) (wx : World) : Prop :=
  ∃ k : Nat, k ≤ nn ∧ i = .int .i64 k ∧ QRow w1.heap.size wx v (posL od k) ∧ Below w1.heap.size w1 wx
set_option maxHeartbeats 4000000 in
set_option maxRecDepth 100000 in
theorem least_any (v : Value) (R : List GR) (nn : Nat) (w : World) (h : RulesIs w v R) (hB : definiteB nn R = true) :
    Calls Tryz.prog 34 #[.int .i64 nn, v] w (LeastPost R nn w) := by
  have hd := definiteB_spec hB
  have hrng := hd.rng
  have h0 := Lib.hid h
  have HB := Lib.hid hB
  obtain ⟨ar, cr, rfl, -, hl1, -, -⟩ := h.form
  clear h hd
  go_enter Tryz.func34, Tryz.ntmps34
  go_wp2_with (go_at_call 82; (with_reducible refine (rounds_any _ R nn _ h0.out HB.out).mono ?_); rintro e w1 ⟨od, ao, co, rfl, hq1, hol, hpos, hls, hb1⟩; have HQ1 := Lib.hid hq1; have HLS := Lib.hid hls; have HB1 := Lib.hid hb1; clear hq1 hls hb1)
  have hints := HQ1.out.ints (by omega)
  obtain ⟨_, _, e9, -, -, -, hcell⟩ := hints.form
  rw [hol] at e9
  simp only [Value.slice.injEq, true_and] at e9
  obtain ⟨rfl, rfl⟩ := e9
  have HC := Lib.hid hcell
  have HPOS := Lib.hid hpos
  have HOL := Lib.hid hol
  clear hcell hints hol hpos
  go_loopw [8, 22] (fun v i wx => LsRel od nn w1 v i wx) (fun _ i _ => nn - (intOf i).toNat)
  case atStart => exact ⟨0, Nat.zero_le _, rfl, QRow.nil _ _, Below.refl _ _⟩
  case round =>
    obtain ⟨k, hk, rfl, hq, hb⟩ := hrel
    have HQ := Lib.hid hq
    have HBX := Lib.hid hb
    have hlen2 := posL_len od k
    obtain ⟨av, nv, cv, rfl⟩ := hq.form
    have hzr := hb.size
    clear hq hb
    by_cases hlt : k < nn
    · obtain ⟨bo, offo, rfl, hbo, hco⟩ := HC.out (by have := HOL.out; omega)
      have ko := (bcell HBX.out _ _ hbo).trans (hco k (by have := HOL.out; omega))
      have hstep : posL od (k + 1) = if 0 < ix od k then posL od k ++ [(k : Int) + 1] else posL od k := rfl
      have HN := Lib.hid hstep
      clear hstep hco
      by_cases hp : 0 < ix od k
      · have HN2 : Hid (posL od (k + 1) = posL od k ++ [(k : Int) + 1]) := Lib.hid (by rw [HN.out, if_pos hp])
        have hxI : InI ((k : Int) + 1) := by unfold InI; omega
        have hap : ((posL od k).length + 1) * 8 ≤ 140737488351232 := by omega
        go_wp2_with (at_builtin; refine wpList_appendQ rfl _ _ 23 Tryz.underlying23 rfl w1.heap.size _ (posL od k) ((k : Int) + 1) rfl (HQ.out.kept (w' := wr.alloc (.cells #[.int .i64 ((k : Int) + 1)] 3)) (fun i h1 h2 _ => Below.heap_alloc _ _ _ h2)) wr.heap.size 1 rfl (Blk.new wr [.int .i64 ((k : Int) + 1)] _) hxI hap (by simp; omega) ?_; intro v4 w4 hq4 hg4 hl4; have HB4 := Lib.hid (below_push HBX.out HQ.out (Nat.le_refl _) hg4); obtain ⟨a4, n4, c4, rfl⟩ := hq4.form; have HQ4 := Lib.hid hq4; clear hq4 hg4 hl4)
        first
          | (go_roundw
             case rel => (exact ⟨k + 1, by omega, by go_num, by rw [HN2.out]; exact HQ4.out, HB4.out⟩)
             case measure => (simp [intOf]; omega))
          | (refine ⟨?_, ?_⟩
             · (exact ⟨k + 1, by omega, by go_num, by rw [HN2.out]; exact HQ4.out, HB4.out⟩)
             · (simp [intOf]; omega))
      · have HN2 : Hid (posL od (k + 1) = posL od k) := Lib.hid (by rw [HN.out, if_neg hp])
        go_wp2_with fail
        first
          | (go_roundw
             case rel => (exact ⟨k + 1, by omega, by go_num, by rw [HN2.out]; exact HQ.out, HBX.out⟩)
             case measure => (simp [intOf]; omega))
          | (refine ⟨?_, ?_⟩
             · (exact ⟨k + 1, by omega, by go_num, by rw [HN2.out]; exact HQ.out, HBX.out⟩)
             · (simp [intOf]; omega))
    · obtain rfl : k = nn := by omega
      obtain ⟨a9, c9, e9⟩ := HQ.out.slenQ
      simp only [Value.slice.injEq] at e9
      obtain ⟨rfl, rfl, rfl⟩ := e9
      go_wp2_with fail
      refine bodyPost_ret (v := .tuple #[.slice av (posL od k).length cv, .int .i64 0]) ?_ rfl ?_
      · simp [results, Tryz.results34, go_sem]
      · have hz := HB1.out.size
        exact ⟨posL od k, _, _, rfl, HQ.out.mono hz, HLS.out, posL_sorted od k, posL_range od k, posL_len od k, HB1.out.trans (HBX.out.mono hz)⟩
theorem ixR_mem {l : List GR} {i : Nat} (hi : i < l.length) : ixR l i ∈ l := by
  have : ixR l i = l[i] := by simp [ixR, List.getD_eq_getElem?_getD, List.getElem?_eq_getElem hi]
  rw [this]; exact List.getElem_mem hi
theorem lhs_all {M : List Int} {r : GR} (hs : r.sum = false) : ∀ k, lhsTo M r k ≤ k ∧ ((k : Int) ≤ lhsTo M r k ↔ ∀ j, j < k → ix r.body j ∈ M)
  | 0 => by simp [lhsTo]
  | k + 1 => by
    have ih := lhs_all (M := M) hs k
    have hw : wOf r k = 1 := by unfold wOf; rw [hs]; rfl
    unfold lhsTo
    rw [hw]
    by_cases h : ix r.body k ∈ M
    · rw [if_pos h]
      push_cast
      refine ⟨by omega, ⟨fun h1 => lt_succ_all (ih.2.1 (by omega)) h, fun h1 => by have := ih.2.2 (fun j hj => h1 j (by omega)); omega⟩⟩
    · rw [if_neg h]
      push_cast
      refine ⟨by omega, ⟨fun h1 => by omega, fun h1 => absurd (h1 k (by omega)) h⟩⟩
end Go.Proofs.YtfajkmmmmmfhiaaGreatDoor
