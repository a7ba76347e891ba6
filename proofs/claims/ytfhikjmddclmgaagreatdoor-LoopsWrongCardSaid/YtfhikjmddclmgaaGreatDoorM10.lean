/- My texts Pb1, Lv4, Lv5, Lv6, merged. -/
import Derived.Test.YtfhikjmddclmgaaGreatDoorM05
import Derived.Test.YtfhikjmddclmgaaGreatDoorM09
import Derived.Deep.DeepCutAuto
import Derived.RangeFuncNested
import Derived.RangeFuncBound
import Derived.RangeFuncCalls
import Derived.RangeFuncLeaves
import Derived.WalkKit
import Derived.OwnWalkIn
import Derived.TacticsInMore
import Derived.LoopNIn
import Derived.LoopIn
import Derived.Stop.RegionWithIn
import Derived.Shelf.Abstract
import Derived.Test.YtfhikjmddclmgaaGreatDoorM07
import Derived.Test.YtfhikjmddclmgaaGreatDoorM08

/- pb: literal, abs, the iterator parts$1: contracts. -/
namespace Go.Proofs.YtfhikjmddclmgaaGreatDoor
open Go.RowKit Go.Shelf
attribute [local go_sem] Oper.semAt_some

/-- A constraint in memory. -/
def PBIs (w : World) (v : Value) (c : PBC) : Prop := ∃ vl vk, v = .agg #[vl, vk, .int .i64 c.bound] ∧ Ints w vl c.lits ∧ Ints w vk c.coefs ∧ InI c.bound

theorem PBIs.below {w w' : World} {v : Value} {c : PBC} (h : PBIs w v c) (hb : Below w.heap.size w w') : PBIs w' v c :=
  let ⟨vl, vk, e, h1, h2, h3⟩ := h; ⟨vl, vk, e, h1.below hb, h2.below hb, h3⟩

theorem pliteral_any (l : Int) (w : World) : Calls Tryz.prog 52 #[.int .i64 l] w fun e w' => e = .returned (.bool (plitB l)) ∧ w = w' := by
  by_cases h0 : l = 0
  · subst h0
    go_enter Tryz.func52, Tryz.ntmps52
    go_wp2
    go_ret
    exact ⟨rfl, rfl⟩
  · by_cases h1 : -65536 ≤ l
    · by_cases h2 : l ≤ 65536
      · have HF : Hid (plitB l = true) := Lib.hid (by unfold plitB; simp [h0, h1, h2])
        go_enter Tryz.func52, Tryz.ntmps52
        go_wp2
        go_ret
        exact ⟨ret_bool (by rw [HF.out]; try simp_all), rfl⟩
      · have HF : Hid (plitB l = false) := Lib.hid (by unfold plitB; simp [h2])
        go_enter Tryz.func52, Tryz.ntmps52
        go_wp2
        go_ret
        exact ⟨ret_bool (by rw [HF.out]; try simp_all), rfl⟩
    · have HF : Hid (plitB l = false) := Lib.hid (by unfold plitB; simp [h1])
      go_enter Tryz.func52, Tryz.ntmps52
      go_wp2
      go_ret
      exact ⟨ret_bool (by rw [HF.out]; try simp_all), rfl⟩

theorem abs_any (l : Int) (hl : -4611686018427387904 ≤ l ∧ l ≤ 4611686018427387904) (w : World) : Calls Tryz.prog 53 #[.int .i64 l] w fun e w' => e = .returned (.int .i64 l.natAbs) ∧ w = w' := by
  go_enter Tryz.func53, Tryz.ntmps53
  go_wp2
  all_goals
    go_ret
    refine ⟨ret_int ?_, rfl⟩
    omega

theorem parts_any (vl vk : Value) (bd : Int) (w : World) (hl : ∃ a n c, vl = .slice a n c) (hk : ∃ a n c, vk = .slice a n c) :
    Calls Tryz.prog 51 #[.agg #[vl, vk, .int .i64 bd]] w fun e w' => e = .returned (.func (.func 98) #[] #[.pointer (some ⟨w.heap.size, 0, none⟩)]) ∧ Below w.heap.size w w' ∧ Blk w' w.heap.size [vl, vk, .int .i64 bd] 30 := by
  obtain ⟨a1, n1, c1, rfl⟩ := hl
  obtain ⟨a2, n2, c2, rfl⟩ := hk
  have HB : Hid (Below w.heap.size w (w.alloc (.cells #[.slice a1 n1 c1, .slice a2 n2 c2, .int .i64 bd] 30))) := Lib.hid (bal (Below.refl _ _) _)
  have HK := Lib.hid (Blk.new w [.slice a1 n1 c1, .slice a2 n2 c2, .int .i64 bd] 30)
  go_enter Tryz.func51, Tryz.ntmps51
  go_wp2
  go_ret
  exact ⟨rfl, HB.out, HK.out⟩

/-- What parts yields. -/
abbrev PV (c : PBC) := { q : Int × Int // q ∈ c.lits.zip c.coefs }

def pvs {c : PBC} (l : List (PV c)) : List (Int × Int) := l.map (·.1)
theorem pvs_snoc {c : PBC} (l : List (PV c)) (x : PV c) : pvs (l ++ [x]) = pvs l ++ [x.1] := by simp [pvs]
theorem pvs_len {c : PBC} (l : List (PV c)) : (pvs l).length = l.length := by simp [pvs]

theorem zip_at {L K : List Int} {k : Nat} (hk : k < L.length) (hl : L.length = K.length) : (L.zip K)[k]? = some (ix L k, ix K k) := by
  simp only [ix, List.getD_eq_getElem?_getD, List.getElem?_zip_eq_some, List.getElem?_eq_getElem hk, List.getElem?_eq_getElem (show k < K.length by omega), Option.getD_some, and_self]

theorem zip_take {L K : List Int} {k : Nat} (hk : k < L.length) (hl : L.length = K.length) : (L.zip K).take (k + 1) = (L.zip K).take k ++ [(ix L k, ix K k)] := by
  rw [List.take_add_one, zip_at hk hl]
  rfl

/-- What the iterator leans on. -/
structure PartSt (wi w : World) (S : List Nat) (cb : Nat) (vl vk : Value) (bd : Int) : Prop where
  below : ∀ i, i < wi.heap.size → w.heap[i]? = wi.heap[i]?
  size : wi.heap.size ≤ w.heap.size
  box : Blk w cb [vl, vk, .int .i64 bd] 30

theorem PartSt.lim {wi w w' : World} {S : List Nat} {cb n : Nat} {vl vk : Value} {bd : Int} (h : PartSt wi w S cb vl vk bd) (hl : Lim n S w w') (hn : wi.heap.size ≤ n) (hcb : cb < n) (hS : ∀ s ∈ S, wi.heap.size ≤ s) (hne : cb ∉ S) : PartSt wi w' S cb vl vk bd :=
  ⟨fun i hi => (hl.block i (by omega) (fun hm => by have := hS i hm; omega)).trans (h.below i hi), Nat.le_trans h.size hl.size, h.box.same (hl.block cb hcb hne)⟩

def PartRel (c : PBC) (n0 : Nat) (S : List Nat) (W0 : World) (J : List (PV c) → World → Prop) (i : Value) (wr : World) : Prop :=
  ∃ (k : Nat) (pre : List (PV c)), k ≤ c.lits.length ∧ i = .int .i64 k ∧ pvs pre = (c.lits.zip c.coefs).take k ∧ J pre wr ∧ Lim n0 S W0 wr

theorem cell_of_same {w w' : World} {b o : Nat} (h : w'.heap[b]? = w.heap[b]?) : w'.cell? ⟨b, o, none⟩ = w.cell? ⟨b, o, none⟩ := World.cell?_of_block h

theorem yieldEnd2 {e : Ending} {A B : Prop} (h : (e = .returned (.bool true) ∧ A) ∨ (e = .returned (.bool false) ∧ B)) : ∃ b, e = .returned (.bool b) ∧ (b = true → A) ∧ (b = false → B) := by
  rcases h with ⟨rfl, h⟩ | ⟨rfl, h⟩
  · exact ⟨true, rfl, fun _ => h, fun e => (Bool.noConfusion e)⟩
  · exact ⟨false, rfl, (fun e => Bool.noConfusion e), fun _ => h⟩

set_option maxHeartbeats 4000000 in
set_option maxRecDepth 100000 in
theorem parts_stops (c : PBC) (wi w0 : World) (vl vk : Value) (hL : Ints wi vl c.lits) (hK : Ints wi vk c.coefs) (hlen : c.lits.length = c.coefs.length) (S : List Nat) (cb : Nat)
    (hst : PartSt wi w0 S cb vl vk c.bound) (hS : ∀ s ∈ S, wi.heap.size ≤ s) (hne : cb ∉ S) (n : Nat) (hn : 1 ≤ n) :
    SeqStopsK Fence.wide n Tryz.prog 98 #[.pointer (some ⟨cb, 0, none⟩)] (fun x : PV c => #[.int .i64 x.1.1, .int .i64 x.1.2]) (Lim w0.heap.size S)
      (fun xs => pvs xs = c.lits.zip c.coefs) (fun pre => ∃ k, k ≤ c.lits.length ∧ pvs pre = (c.lits.zip c.coefs).take k) c.lits.length w0 := by
  intro l J Jx W hW hJ hJx hY h0
  obtain ⟨a1, c1, rfl, -, hl1, -, hcell1⟩ := hL.form
  obtain ⟨a2, c2, rfl, -, hl2, -, hcell2⟩ := hK.form
  have HC1 := Lib.hid hcell1
  have HC2 := Lib.hid hcell2
  have HY := Lib.hid hY
  have HJ := Lib.hid hJ
  have HJX := Lib.hid hJx
  have H0 := Lib.hid h0
  have HLEN := Lib.hid hlen
  have hcbl := hst.box.lt
  have hsz := hst.size
  have HS0 : Hid (PartSt wi W S cb (.slice a1 c.lits.length c1) (.slice a2 c.coefs.length c2) c.bound) := Lib.hid (hst.lim (.of_below hW (Nat.le_refl _)) hsz hcbl hS hne)
  have HS := Lib.hid hS
  have HNE := Lib.hid hne
  have kp := HS0.out.box.cell
  have hzW := hW.size
  clear hst hY hJ hJx h0 hW hcell1 hcell2 hL hK hS hne hlen
  refine callsIn_of_wp Tryz.func98 rfl trivial ?_ rfl
  simp only [Tryz.ntmps98, List.size_toArray, List.length_cons, List.length_nil, Nat.reduceAdd, Nat.reduceSub, Array.replicate_succ, Array.replicate_zero, List.push_toArray, List.append_toArray, List.nil_append, List.cons_append]
  gi_wp2
  clear kp
  gi_loopw [8] (fun i wr => PartRel c w0.heap.size S W J i wr) (fun i _ => c.lits.length - (intOf i).toNat)
  case atStart => exact ⟨0, [], Nat.zero_le _, rfl, by simp [pvs], H0.out, Lim.refl _ _ _⟩
  case round =>
    obtain ⟨k, pre, hk, rfl, hpre, hj, hlim⟩ := hrel
    have HJR := Lib.hid hj
    have HPRE := Lib.hid hpre
    have HLIM := Lib.hid hlim
    have HSR := Lib.hid (HS0.out.lim hlim hsz hcbl HS.out HNE.out)
    clear hj hpre hlim
    by_cases hlt : k < c.lits.length
    · have hlt2 : k < c.coefs.length := by have := HLEN.out; omega
      obtain ⟨b1, o1, rfl, hb1, hc1⟩ := HC1.out (by omega)
      obtain ⟨b2, o2, rfl, hb2, hc2⟩ := HC2.out (by omega)
      have k1 := (cell_of_same (o := o1 + k) (HSR.out.below b1 hb1)).trans (hc1 k hlt)
      have k2 := (cell_of_same (o := o2 + k) (HSR.out.below b2 hb2)).trans (hc2 k hlt2)
      have kr := HSR.out.box.cell
      have HLN : Hid (pre.length < c.lits.length) := Lib.hid (by
        have h1 := congrArg List.length HPRE.out
        rw [pvs_len, List.length_take] at h1
        have := Nat.min_le_left k (c.lits.zip c.coefs).length
        omega)
      have HM : Hid ((ix c.lits k, ix c.coefs k) ∈ c.lits.zip c.coefs) := Lib.hid (List.mem_of_getElem? (zip_at hlt HLEN.out))
      have HZ := Lib.hid (zip_take hlt HLEN.out)
      clear hc1 hc2
      obtain ⟨fn, tmps, assign, body, hy, hR⟩ := HY.out pre ⟨_, HM.out⟩ wr HJR.out HLN.out
      dsimp only at hy
      gi_wp2_with (refine hR.mono ?_; rintro e W3 h3; obtain ⟨bb, rfl, hbt, hbf⟩ := yieldEnd2 h3; have HBT := Lib.hid hbt; have HBF := Lib.hid hbf; clear hbt hbf h3)
      case roundEnd =>
        obtain rfl : bb = true := by simpa using ‹(!bb) = false›
        exact ⟨⟨k + 1, pre ++ [_], hlt, by go_num, by rw [pvs_snoc, HPRE.out, HZ.out], (HBT.out (by first | exact rfl | exact trivial)).1, HLIM.out.trans (HBT.out (by first | exact rfl | exact trivial)).2⟩, by simp [intOf]; omega⟩
      obtain rfl : bb = false := by simpa using ‹(!bb) = true›
      refine bodyPost_ret (results_none rfl _ _ _) rfl ?_
      exact ⟨⟨_, rfl⟩, .inr ⟨pre ++ [_], ⟨k + 1, hlt, by rw [pvs_snoc, HPRE.out, HZ.out]⟩, HBF.out (by first | exact rfl | exact trivial)⟩⟩
    · gi_wp2
      go_end0
      obtain rfl : k = c.lits.length := by omega
      exact ⟨⟨_, rfl⟩, .inl ⟨pre, by rw [HPRE.out, List.take_of_length_le (by rw [List.length_zip]; exact Nat.min_le_left _ _)], HJR.out⟩⟩

end Go.Proofs.YtfhikjmddclmgaaGreatDoor

/- loops.Valid's closure: membership in the constraint's literals. -/
namespace Go.Proofs.YtfhikjmddclmgaaGreatDoor
open Go.RowKit

def inB (L : List Int) (l : Int) : Bool := decide (l ∈ L)

/-- The constraint that the closure has captured. -/
def InV (w : World) (cb : Nat) (L : List Int) : Prop := ∃ vl vk bd, Blk w cb [vl, vk, .int .i64 bd] 30 ∧ Ints w vl L

theorem InV.below {w w' : World} {cb : Nat} {L : List Int} (h : InV w cb L) (hb : Below w.heap.size w w') : InV w' cb L :=
  let ⟨vl, vk, bd, h1, h2⟩ := h; ⟨vl, vk, bd, h1.below hb, h2.below hb⟩

set_option maxHeartbeats 1000000 in
theorem inV_any (l : Int) (ab : Nat) (a : List Int) (w : World) (h : InV w ab a) (hl : 1 ≤ l.natAbs ∧ l.natAbs ≤ 1000000) :
    Calls Tryz.prog 43 #[.int .i64 l, .pointer (some ⟨ab, 0, none⟩)] w fun e w' => e = .returned (.bool (inB a l)) ∧ w = w' := by
  obtain ⟨vl, vk, bd, h1, h2⟩ := h
  have k0 := h1.cell 0
  have H2 := Lib.hid h2
  obtain ⟨a9, c9, rfl, -⟩ := h2.form
  clear h1 h2
  go_enter Tryz.func43, Tryz.ntmps43
  go_wp2_with (go_at_call 28; (with_reducible refine (contains_any _ a l _ H2.out).mono ?_); rintro e w1 ⟨rfl, rfl⟩)
  go_ret
  exact ⟨rfl, rfl⟩

end Go.Proofs.YtfhikjmddclmgaaGreatDoor

/- loops (for Valid; printed by dupv.py): support.excluded, with Unfounded's closure. -/
namespace Go.Proofs.YtfhikjmddclmgaaGreatDoor
open Go.RowKit



/-- What excluded has boxed: the support, the closure, the assignment. -/
structure EnvUV (w : World) (sb fb ab : Nat) (u : SU) (a : List Int) : Prop where
  sup : SupB w sb u
  fn : Blk w fb [.func (.func 43) #[] #[.pointer (some ⟨ab, 0, none⟩)]] 77
  asg : InV w ab a

theorem EnvUV.below {w w' : World} {sb fb ab : Nat} {u : SU} {a : List Int} (h : EnvUV w sb fb ab u a) (hb : Below w.heap.size w w') : EnvUV w' sb fb ab u a := ⟨h.sup.below hb, h.fn.below hb, h.asg.below hb⟩

section
variable {w : World} {sb fb ab : Nat} {u : SU} {a : List Int}

set_option maxHeartbeats 1000000 in
theorem neg_inV (h : EnvUV w sb fb ab u a) (x : Int) (hx : 1 ≤ x ∧ x ≤ 1000000) :
    Calls Tryz.prog 111 #[.int .i64 x, .pointer (some ⟨fb, 0, none⟩)] w fun e w' => e = .returned (.bool (inB a (-x))) ∧ w = w' := by
  have kf := h.fn.cell 0
  have HI := Lib.hid (inV_any (-x) ab a w h.asg (by omega))
  clear h
  go_enter Tryz.func111, Tryz.ntmps111
  go_wp2_with (go_at_call 43; (with_reducible refine (HI.out).mono ?_); rintro e w1 ⟨rfl, rfl⟩)
  go_ret
  exact ⟨rfl, rfl⟩

set_option maxHeartbeats 1000000 in
theorem not_inV (h : EnvUV w sb fb ab u a) (x : Int) (hx : 1 ≤ x.natAbs ∧ x.natAbs ≤ 1000000) :
    Calls Tryz.prog 113 #[.int .i64 x, .pointer (some ⟨fb, 0, none⟩)] w fun e w' => e = .returned (.bool (!inB a x)) ∧ w = w' := by
  have kf := h.fn.cell 0
  have HI := Lib.hid (inV_any x ab a w h.asg hx)
  clear h
  go_enter Tryz.func113, Tryz.ntmps113
  go_wp2_with (go_at_call 43; (with_reducible refine (HI.out).mono ?_); rintro e w1 ⟨rfl, rfl⟩)
  go_ret
  exact ⟨rfl, rfl⟩

set_option maxHeartbeats 1000000 in
theorem ex1_anyV (h : EnvUV w sb fb ab u a) (hok : SUok u) :
    Calls Tryz.prog 108 #[.pointer (some ⟨fb, 0, none⟩), .pointer (some ⟨sb, 0, none⟩)] w fun e w' => e = .returned (.bool (inB a u.b)) ∧ w = w' := by
  have kf := h.fn.cell 0
  obtain ⟨vh, vb, vw, vs, h0, -, -, -⟩ := h.sup
  have k6 := h0.cell 6
  have HI := Lib.hid (inV_any u.b ab a w h.asg (by have := hok.b; omega))
  clear h h0 hok
  go_enter Tryz.func108, Tryz.ntmps108
  go_wp2_with (go_at_call 43; (with_reducible refine (HI.out).mono ?_); rintro e w1 ⟨rfl, rfl⟩)
  go_ret
  exact ⟨rfl, rfl⟩
end

set_option maxHeartbeats 1000000 in
theorem idx_inUV (v : Value) (l : List Int) (w : World) (h : Ints w v l) (g : Nat → Bool) (cap : Value)
    (hg : ∀ w', Below w.heap.size w w' → ∀ j, j < l.length → Calls Tryz.prog 43 #[.int .i64 (ix l j), cap] w' fun e w'' => e = .returned (.bool (g j)) ∧ Below w'.heap.size w' w'') :
    Calls Tryz.prog 72 #[v, .func (.func 43) #[] #[cap]] w fun e w' => ∃ r, e = .returned (.int .i64 r) ∧ IxP l.length g r ∧ Below w.heap.size w w' := by
  obtain ⟨a1, c1, rfl, -, hl1, -, hcell⟩ := h.form
  have HG := Lib.hid hg
  clear h hg
  go_enter Tryz.func72, Tryz.ntmps72
  go_wp2
  go_loopw [8] (fun i wx => IxR l.length g w i wx) (fun i _ => l.length - (intOf i).toNat)
  case atStart => exact ⟨0, by omega, rfl, fun j hj => absurd hj (Nat.not_lt_zero _), Below.refl _ _⟩
  case round =>
    obtain ⟨k, hk, rfl, hall, hb⟩ := hrel
    have HA := Lib.hid hall
    clear hall
    by_cases hlt : k < l.length
    · obtain ⟨b, off, rfl, hbl, hc⟩ := hcell (by omega)
      have hk1 := (bcell hb _ _ hbl).trans (hc k hlt)
      clear hc hcell
      cases g1 : g k with
      | true =>
        have HK : Hid (_ = true) := Lib.hid g1
        have HC := Lib.hid (HG.out _ hb k hlt)
        rw [g1] at HC
        clear g1
        go_wp2_with (go_at_call 43; refine (HC.out).mono ?_; rintro e w1 ⟨rfl, hb1⟩)
        go_ret
        exact ⟨_, rfl, .inr ⟨k, hlt, rfl, HK.out, HA.out⟩, bon hb hb1⟩
      | false =>
        have HN := Lib.hid (lt_succ_all HA.out g1)
        have HC := Lib.hid (HG.out _ hb k hlt)
        rw [g1] at HC
        clear g1
        go_wp2_with (go_at_call 43; refine (HC.out).mono ?_; rintro e w1 ⟨rfl, hb1⟩)
        first
          | (go_roundw
             case rel => (exact ⟨k + 1, by omega, by go_num, HN.out, bon hb hb1⟩)
             case measure => (simp [intOf]; omega))
          | (refine ⟨?_, ?_⟩
             · (exact ⟨k + 1, by omega, by go_num, HN.out, bon hb hb1⟩)
             · (simp [intOf]; omega))
    · have HN : Hid (∀ j, j < l.length → g j = false) := Lib.hid (fun j hj => HA.out j (by omega))
      go_wp2
      go_ret
      exact ⟨_, rfl, .inl ⟨rfl, HN.out⟩, hb⟩

set_option maxHeartbeats 1000000 in
theorem ctn_inUV (v : Value) (l : List Int) (w : World) (h : Ints w v l) (g : Nat → Bool) (cap : Value)
    (hg : ∀ w', Below w.heap.size w w' → ∀ j, j < l.length → Calls Tryz.prog 43 #[.int .i64 (ix l j), cap] w' fun e w'' => e = .returned (.bool (g j)) ∧ Below w'.heap.size w' w'') :
    Calls Tryz.prog 44 #[v, .func (.func 43) #[] #[cap]] w fun e w' => e = .returned (.bool (anyR l.length g)) ∧ Below w.heap.size w w' := by
  have HI := Lib.hid (idx_inUV v l w h g cap hg)
  obtain ⟨a1, c1, rfl, -⟩ := h.form
  clear h hg
  go_enter Tryz.func44, Tryz.ntmps44
  go_wp2_with (go_at_call 72; refine (HI.out).mono ?_; rintro e w1 ⟨r, rfl, hr, hb1⟩; have HR := Lib.hid hr; clear hr)
  go_ret
  exact ⟨ret_bool HR.out.any, hb1⟩
set_option maxHeartbeats 1000000 in
theorem idx_negV (v : Value) (l : List Int) (w : World) (h : Ints w v l) (g : Nat → Bool) (cap : Value)
    (hg : ∀ w', Below w.heap.size w w' → ∀ j, j < l.length → Calls Tryz.prog 111 #[.int .i64 (ix l j), cap] w' fun e w'' => e = .returned (.bool (g j)) ∧ Below w'.heap.size w' w'') :
    Calls Tryz.prog 72 #[v, .func (.func 111) #[] #[cap]] w fun e w' => ∃ r, e = .returned (.int .i64 r) ∧ IxP l.length g r ∧ Below w.heap.size w w' := by
  obtain ⟨a1, c1, rfl, -, hl1, -, hcell⟩ := h.form
  have HG := Lib.hid hg
  clear h hg
  go_enter Tryz.func72, Tryz.ntmps72
  go_wp2
  go_loopw [8] (fun i wx => IxR l.length g w i wx) (fun i _ => l.length - (intOf i).toNat)
  case atStart => exact ⟨0, by omega, rfl, fun j hj => absurd hj (Nat.not_lt_zero _), Below.refl _ _⟩
  case round =>
    obtain ⟨k, hk, rfl, hall, hb⟩ := hrel
    have HA := Lib.hid hall
    clear hall
    by_cases hlt : k < l.length
    · obtain ⟨b, off, rfl, hbl, hc⟩ := hcell (by omega)
      have hk1 := (bcell hb _ _ hbl).trans (hc k hlt)
      clear hc hcell
      cases g1 : g k with
      | true =>
        have HK : Hid (_ = true) := Lib.hid g1
        have HC := Lib.hid (HG.out _ hb k hlt)
        rw [g1] at HC
        clear g1
        go_wp2_with (go_at_call 111; refine (HC.out).mono ?_; rintro e w1 ⟨rfl, hb1⟩)
        go_ret
        exact ⟨_, rfl, .inr ⟨k, hlt, rfl, HK.out, HA.out⟩, bon hb hb1⟩
      | false =>
        have HN := Lib.hid (lt_succ_all HA.out g1)
        have HC := Lib.hid (HG.out _ hb k hlt)
        rw [g1] at HC
        clear g1
        go_wp2_with (go_at_call 111; refine (HC.out).mono ?_; rintro e w1 ⟨rfl, hb1⟩)
        first
          | (go_roundw
             case rel => (exact ⟨k + 1, by omega, by go_num, HN.out, bon hb hb1⟩)
             case measure => (simp [intOf]; omega))
          | (refine ⟨?_, ?_⟩
             · (exact ⟨k + 1, by omega, by go_num, HN.out, bon hb hb1⟩)
             · (simp [intOf]; omega))
    · have HN : Hid (∀ j, j < l.length → g j = false) := Lib.hid (fun j hj => HA.out j (by omega))
      go_wp2
      go_ret
      exact ⟨_, rfl, .inl ⟨rfl, HN.out⟩, hb⟩

set_option maxHeartbeats 1000000 in
theorem ctn_negV (v : Value) (l : List Int) (w : World) (h : Ints w v l) (g : Nat → Bool) (cap : Value)
    (hg : ∀ w', Below w.heap.size w w' → ∀ j, j < l.length → Calls Tryz.prog 111 #[.int .i64 (ix l j), cap] w' fun e w'' => e = .returned (.bool (g j)) ∧ Below w'.heap.size w' w'') :
    Calls Tryz.prog 44 #[v, .func (.func 111) #[] #[cap]] w fun e w' => e = .returned (.bool (anyR l.length g)) ∧ Below w.heap.size w w' := by
  have HI := Lib.hid (idx_negV v l w h g cap hg)
  obtain ⟨a1, c1, rfl, -⟩ := h.form
  clear h hg
  go_enter Tryz.func44, Tryz.ntmps44
  go_wp2_with (go_at_call 72; refine (HI.out).mono ?_; rintro e w1 ⟨r, rfl, hr, hb1⟩; have HR := Lib.hid hr; clear hr)
  go_ret
  exact ⟨ret_bool HR.out.any, hb1⟩
set_option maxHeartbeats 4000000 in
set_option maxRecDepth 100000 in
theorem wgt_notV (v : Value) (u : SU) (w : World) (h : SupIs w v u) (hok : SUok u) (hs : u.r.sum = true) (g : Int → Bool) (cap : Value)
    (hg : ∀ w', Below w.heap.size w w' → ∀ l : Int, 1 ≤ l.natAbs → l.natAbs ≤ 1000000 → Calls Tryz.prog 113 #[.int .i64 l, cap] w' fun e w'' => e = .returned (.bool (g l)) ∧ Below w'.heap.size w' w'') :
    Calls Tryz.prog 104 #[v, .func (.func 113) #[] #[cap]] w fun e w' => e = .returned (.int .i64 (wgt u g u.r.body.length)) ∧ Below w.heap.size w w' := by
  have h0 := h
  obtain ⟨vh, vb, vw, vs, rfl, hsl, hS, hb⟩ := h
  have hal := bal (Below.refl w.heap.size w) (.cells #[.bool u.r.choice, vh, .bool u.r.sum, .int .i64 u.r.bound, vb, vw, .int .i64 u.b, vs] 68)
  obtain ⟨a1, c1, rfl, -, hl1, -, -⟩ := hsl.head.form
  obtain ⟨a2, c2, rfl, -, hl2, -, hcb⟩ := hsl.body.form
  obtain ⟨a3, c3, rfl, -, hl3, -, hcw⟩ := hsl.wts.form
  obtain ⟨a4, c4, rfl, -, hl4, -, -⟩ := hS.form
  have H0 := Lib.hid h0
  have HG := Lib.hid hg
  have HBK := Lib.hid (Blk.new w [.bool u.r.choice, .slice a1 u.r.head.length c1, .bool u.r.sum, .int .i64 u.r.bound, .slice a2 u.r.body.length c2, .slice a3 u.r.w.length c3, .int .i64 u.b, .slice a4 u.S.length c4] 68)
  have HCB := Lib.hid hcb
  have HCW := Lib.hid hcw
  have HOK := Lib.hid hok
  have HWS := Lib.hid (hok.wts hs)
  have hwl : u.r.w.length ≤ u.r.body.length ∧ u.r.body.length ≤ u.r.w.length := by have := (hok.wts hs).1; omega
  have HSM := Lib.hid hs
  clear h0 hsl hS hb hg hcb hcw hok hs
  go_enter Tryz.func104, Tryz.ntmps104
  go_upto_region 1 with fail
  have HAL := Lib.hid hal
  clear hal
  generalize w.alloc (.cells #[.bool u.r.choice, .slice a1 u.r.head.length c1, .bool u.r.sum, .int .i64 u.r.bound, .slice a2 u.r.body.length c2, .slice a3 u.r.w.length c3, .int .i64 u.b, .slice a4 u.S.length c4] 68) = W0 at *
  have kx := HBK.out.cell
  have hzW : w.heap.size < W0.heap.size := HBK.out.lt
  go_wp2_with fail
  clear kx
  go_loopw [5, 12] (fun s i wx => WgRel u g W0 s i wx) (fun _ i _ => u.r.body.length - (intOf i).toNat)
  case atStart => exact ⟨0, Nat.zero_le _, rfl, rfl, Below.refl _ _⟩
  case round =>
    obtain ⟨k, hk, rfl, rfl, hbx⟩ := hrel
    have HBX := Lib.hid hbx
    have hbw : Below w.heap.size w wr := HAL.out.trans (hbx.mono (by omega))
    have HBW := Lib.hid hbw
    have kx := fun o => (bcell hbx _ o HBK.out.lt).trans (HBK.out.cell o)
    have hz := hbx.size
    have hle := wgt_le HOK.out HSM.out g k hk
    have hsm := HWS.out.2.2 k (by omega)
    clear hbx
    by_cases hlt : k < u.r.body.length
    · obtain ⟨bb, offb, rfl, hbb, hcb⟩ := HCB.out (by omega)
      have kb := (bcell hbw _ _ hbb).trans (hcb k hlt)
      obtain ⟨bw, offw, rfl, hbw2, hcw⟩ := HCW.out (by omega)
      have hcw0 := hcw k (by omega)
      have kw := (bcell hbw _ _ hbw2).trans hcw0
      have hle2 := wgt_le HOK.out HSM.out g (k + 1) hlt
      have hsm2 := HWS.out.2.2 (k + 1) (by omega)
      have hl := HOK.out.lits k hlt
      have HIN := Lib.hid (internal_any _ u (ix u.r.body k) wr (H0.out.below hbw))
      have HST : Hid (wgt u g (k + 1) = wgt u g k + if !intB u.S (ix u.r.body k) && g (ix u.r.body k) then ix u.r.w k else 0) := Lib.hid rfl
      have hw1 := HWS.out.2.1 k (by omega)
      clear hcb hcw hbw
      cases hi : intB u.S (ix u.r.body k) with
      | true =>
        rw [hi] at HIN HST
        have HS2 : Hid (wgt u g (k + 1) = wgt u g k) := Lib.hid (by rw [HST.out]; simp)
        go_wp2_with (go_at_call 77; (with_reducible refine (HIN.out).mono ?_); rintro e w1 ⟨rfl, hb1⟩; have HB1 := Lib.hid (bon HBX.out hb1); clear hb1)
        first
          | (go_roundw
             case rel => (exact ⟨k + 1, by omega, by go_num, by rw [HS2.out], HB1.out⟩)
             case measure => (simp [intOf]; omega))
          | (refine ⟨?_, ?_⟩
             · (exact ⟨k + 1, by omega, by go_num, by rw [HS2.out], HB1.out⟩)
             · (simp [intOf]; omega))
      | false =>
        rw [hi] at HIN HST
        cases hgl : g (ix u.r.body k) with
        | false =>
          rw [hgl] at HST
          have HS2 : Hid (wgt u g (k + 1) = wgt u g k) := Lib.hid (by rw [HST.out]; simp)
          go_wp2_with (first | (go_at_call 113; (with_reducible refine (HG.out _ (bon HBW.out hb1) _ hl.1 hl.2).mono ?_); rintro e w2 ⟨e2, hb2⟩; rw [hgl] at e2; subst e2; have HB2 := Lib.hid (bon (bon HBX.out hb1) hb2)) | (go_at_call 77; (with_reducible refine (HIN.out).mono ?_); rintro e w1 ⟨rfl, hb1⟩; have kx1 := fun o => (bcell (bon HBX.out hb1) _ o HBK.out.lt).trans (HBK.out.cell o); have hz1 := hb1.size))
          first
            | (go_roundw
               case rel => (exact ⟨k + 1, by omega, by go_num, by rw [HS2.out], HB2.out⟩)
               case measure => (simp [intOf]; omega))
            | (refine ⟨?_, ?_⟩
               · (exact ⟨k + 1, by omega, by go_num, by rw [HS2.out], HB2.out⟩)
               · (simp [intOf]; omega))
        | true =>
          rw [hgl] at HST
          have HS2 : Hid (wgt u g (k + 1) = wgt u g k + ix u.r.w k) := Lib.hid (by rw [HST.out]; simp)
          have hs2 : wgt u g k + ix u.r.w k ≤ 1048576 := by rw [HS2.out] at hle2; omega
          go_wp2_with (first | (go_at_call 113; (with_reducible refine (HG.out _ (bon HBW.out hb1) _ hl.1 hl.2).mono ?_); rintro e w2 ⟨e2, hb2⟩; rw [hgl] at e2; subst e2; have HB2 := Lib.hid (bon (bon HBX.out hb1) hb2); have kw2 := (bcell (bon (bon HBW.out hb1) hb2) _ _ hbw2).trans hcw0; have kx2 := fun o => (bcell (bon (bon HBX.out hb1) hb2) _ o HBK.out.lt).trans (HBK.out.cell o); have hz2 := hb2.size) | (go_at_call 77; (with_reducible refine (HIN.out).mono ?_); rintro e w1 ⟨rfl, hb1⟩; have kx1 := fun o => (bcell (bon HBX.out hb1) _ o HBK.out.lt).trans (HBK.out.cell o); have hz1 := hb1.size))
          first
            | (go_roundw
               case rel => (exact ⟨k + 1, by omega, by go_num, by rw [HS2.out], HB2.out⟩)
               case measure => (simp [intOf]; omega))
            | (refine ⟨?_, ?_⟩
               · (exact ⟨k + 1, by omega, by go_num, by rw [HS2.out], HB2.out⟩)
               · (simp [intOf]; omega))
    · obtain rfl : k = u.r.body.length := by omega
      go_wp2_with fail
      go_ret
      exact ⟨rfl, HAL.out.trans (HBX.out.mono (by omega))⟩

def ex2V (u : SU) (a : List Int) : Bool := !u.r.sum && anyR u.r.body.length (fun j => inB a (ix u.r.body j))
def ex3V (u : SU) (a : List Int) : Bool := anyR (oth u).length (fun j => inB a (-(ix (oth u) j)))
def ex4V (u : SU) (a : List Int) : Bool := u.r.sum && decide (wgt u (fun l => !inB a l) u.r.body.length < u.r.bound)

section
variable {w : World} {sb fb ab : Nat} {u : SU} {a : List Int}

set_option maxHeartbeats 1000000 in
theorem ex2_anyV (h : EnvUV w sb fb ab u a) (hok : SUok u) :
    Calls Tryz.prog 109 #[.pointer (some ⟨sb, 0, none⟩), .pointer (some ⟨fb, 0, none⟩)] w fun e w' => e = .returned (.bool (ex2V u a)) ∧ Below w.heap.size w w' := by
  have kf := h.fn.cell 0
  obtain ⟨vh, vb, vw, vs, h0, hsl, -, -⟩ := h.sup
  obtain ⟨a2, c2, rfl, -, hl2, -, -⟩ := hsl.body.form
  have ks := h0.cell
  have HA := Lib.hid h.asg
  have HB := Lib.hid hsl.body
  have HOK := Lib.hid hok
  clear h h0 hsl hok
  cases hs : u.r.sum with
  | true =>
    have HF : Hid (ex2V u a = false) := Lib.hid (by unfold ex2V; rw [hs]; rfl)
    go_enter Tryz.func109, Tryz.ntmps109
    go_wp2
    go_ret
    exact ⟨ret_bool HF.out.symm, Below.refl _ _⟩
  | false =>
    have HF : Hid (ex2V u a = anyR u.r.body.length (fun j => inB a (ix u.r.body j))) := Lib.hid (by unfold ex2V; rw [hs]; rfl)
    go_enter Tryz.func109, Tryz.ntmps109
    go_wp2_with (go_at_call 44; (with_reducible refine (ctn_inUV _ u.r.body w HB.out (fun j => inB a (ix u.r.body j)) _ (fun w' hb' j hj => (inV_any _ ab a w' (HA.out.below hb') (HOK.out.lits j hj)).mono fun e w'' ⟨e1, e2⟩ => ⟨e1, e2 ▸ Below.refl _ _⟩)).mono ?_); rintro e w2 ⟨rfl, hb2⟩; have HB2 := Lib.hid hb2; clear hb2)
    go_ret
    exact ⟨ret_bool HF.out.symm, HB2.out⟩

set_option maxHeartbeats 1000000 in
theorem ex3_anyV (h : EnvUV w sb fb ab u a) (hok : SUok u) :
    Calls Tryz.prog 110 #[.pointer (some ⟨sb, 0, none⟩), .pointer (some ⟨fb, 0, none⟩)] w fun e w' => e = .returned (.bool (ex3V u a)) ∧ Below w.heap.size w w' := by
  have HE := Lib.hid h
  obtain ⟨vh, vb, vw, vs, h0, hsl, hS, hb⟩ := h.sup
  have ks := h0.cell
  have HSU : Hid (SupIs w (.agg #[.bool u.r.choice, vh, .bool u.r.sum, .int .i64 u.r.bound, vb, vw, .int .i64 u.b, vs]) u) := Lib.hid ⟨_, _, _, _, rfl, hsl, hS, hb⟩
  have HOK := Lib.hid hok
  have hol : (oth u).length * 8 ≤ 140737488351232 := by
    have h1 := hok.hlen
    have h2 := keepF_le (fun x => decide (x ∈ u.S)) u.r.head u.r.head.length
    unfold oth
    split
    · simp
    · omega
  clear h h0 hsl hS hok
  go_enter Tryz.func110, Tryz.ntmps110
  go_wp2_with (first
    | (go_at_call 44; (with_reducible refine (ctn_negV _ (oth u) _ HO.out (fun j => inB a (-(ix (oth u) j))) _ (fun w' hb' j hj => (neg_inV (HE.out.below (bon HB1.out hb')) _ (oth_mem HOK.out hj)).mono fun e w'' ⟨e1, e2⟩ => ⟨e1, e2 ▸ Below.refl _ _⟩)).mono ?_); rintro e w2 ⟨rfl, hb2⟩; have HB2 := Lib.hid (bon HB1.out hb2); clear hb2)
    | (go_at_call 73; (with_reducible refine (others_any _ u _ HSU.out).mono ?_); rintro e w1 ⟨a5, n5, c5, rfl, hq1, hb1⟩; have HO := Lib.hid (hq1.ints hol); have HB1 := Lib.hid hb1; have kf1 := (bcell hb1 _ 0 HE.out.fn.lt).trans (HE.out.fn.cell 0); clear hq1 hb1))
  go_ret
  exact ⟨rfl, HB2.out⟩
end

end Go.Proofs.YtfhikjmddclmgaaGreatDoor

/- loops (for Valid; printed by dupv.py): support.excluded, with Unfounded's closure: the fourth way, the list of ways. -/
namespace Go.Proofs.YtfhikjmddclmgaaGreatDoor
open Go.RowKit


section
variable {w : World} {sb fb ab : Nat} {u : SU} {a : List Int}

set_option maxHeartbeats 4000000 in
set_option maxRecDepth 100000 in
theorem ex4_anyV (h : EnvUV w sb fb ab u a) (hok : SUok u) :
    Calls Tryz.prog 112 #[.pointer (some ⟨sb, 0, none⟩), .pointer (some ⟨fb, 0, none⟩)] w fun e w' => e = .returned (.bool (ex4V u a)) ∧ Below w.heap.size w w' := by
  have HE := Lib.hid h
  obtain ⟨vh, vb, vw, vs, h0, hsl, hS, hb⟩ := h.sup
  have kx : ∀ e : Ext w, ∀ o, e.world.cell? ⟨sb, o, none⟩ = [Value.bool u.r.choice, vh, .bool u.r.sum, .int .i64 u.r.bound, vb, vw, .int .i64 u.b, vs][o]? := fun e o => (bcell e.below _ o h0.lt).trans (h0.cell o)
  have ks := h0.cell
  have HSU : Hid (SupIs w (.agg #[.bool u.r.choice, vh, .bool u.r.sum, .int .i64 u.r.bound, vb, vw, .int .i64 u.b, vs]) u) := Lib.hid ⟨_, _, _, _, rfl, hsl, hS, hb⟩
  have HOK := Lib.hid hok
  have hbd := hok.bound
  clear h h0 hsl hS hok
  cases hs : u.r.sum with
  | true =>
    have HF : Hid (ex4V u a = decide (wgt u (fun l => !inB a l) u.r.body.length < u.r.bound)) := Lib.hid (by unfold ex4V; rw [hs, Bool.true_and])
    have HSM := Lib.hid hs
    have hwl := wgt_le HOK.out HSM.out (fun l => !inB a l) u.r.body.length (Nat.le_refl _)
    have hsm := (HOK.out.wts HSM.out).2.2 u.r.body.length (by have := (HOK.out.wts HSM.out).1; omega)
    rw [hs] at HSU
    simp only [hs] at kx
    have HW : Hid (∀ e : Ext w, Calls Tryz.prog 104 #[.agg #[.bool u.r.choice, vh, .bool true, .int .i64 u.r.bound, vb, vw, .int .i64 u.b, vs], .func (.func 113) #[] #[.pointer (some ⟨fb, 0, none⟩)]] e.world fun e2 w' => e2 = .returned (.int .i64 (wgt u (fun l => !inB a l) u.r.body.length)) ∧ Below e.world.heap.size e.world w') := Lib.hid (fun e => wgt_notV _ u _ (HSU.out.below e.below) HOK.out HSM.out (fun l => !inB a l) _ (fun w' hb' l h1 h2 => (not_inV ((HE.out.below e.below).below hb') l ⟨h1, h2⟩).mono fun e w'' ⟨e1, e2⟩ => ⟨e1, e2 ▸ Below.refl _ _⟩))
    clear hs ks
    go_enter Tryz.func112, Tryz.ntmps112
    go_upto_region 1 with fail
    refine wp_region_ext (by kernel_rfl) (by kernel_rfl) ?_
    repeat (go_big_quiet_step ((go_at_call 104; exact Calls.ext_of (HW.out _))))
    refine wpQuiet_nil ?_
    intro w9 hw'
    obtain ⟨e9, he9⟩ := hw'
    have hb9 := e9.below
    rw [← he9] at hb9
    clear he9 e9
    try dsimp only
    go_wp2
    go_ret
    exact ⟨ret_bool HF.out.symm, hb9⟩
  | false =>
    have HF : Hid (ex4V u a = false) := Lib.hid (by unfold ex4V; rw [hs, Bool.false_and])
    simp only [hs] at ks
    simp only [hs] at kx
    clear hs ks
    go_enter Tryz.func112, Tryz.ntmps112
    go_upto_region 1 with fail
    refine wp_region_ext (by kernel_rfl) (by kernel_rfl) ?_
    repeat (go_big_quiet_step (fail))
    refine wpQuiet_nil ?_
    intro w9 hw'
    obtain ⟨e9, he9⟩ := hw'
    have hb9 := e9.below
    rw [← he9] at hb9
    clear he9 e9
    try dsimp only
    go_wp2
    go_ret
    exact ⟨ret_bool HF.out.symm, hb9⟩
end

theorem ex5_imp {x : Value} {w : World} {b : Bool} (h : Calls Tryz.prog 71 #[x] w fun e w' => e = .returned (.bool b) ∧ Below w.heap.size w w') :
    Calls Tryz.prog 115 #[.func (.func 71) #[x] #[]] w fun e w' => e = .returned (.bool b) ∧ Below w.heap.size w w' := by
  have H := Lib.hid h
  clear h
  go_enter Tryz.func115, Tryz.ntmps115
  go_wp2_with (go_at_call 71; (with_reducible refine (H.out).mono ?_); rintro e w1 ⟨rfl, hb1⟩; have HB1 := Lib.hid hb1; clear hb1)
  go_ret
  exact ⟨rfl, HB1.out⟩
theorem ex5_1 {x y : Value} {w : World} {b : Bool} (h : Calls Tryz.prog 108 #[x, y] w fun e w' => e = .returned (.bool b) ∧ Below w.heap.size w w') :
    Calls Tryz.prog 115 #[.func (.func 108) #[] #[x, y]] w fun e w' => e = .returned (.bool b) ∧ Below w.heap.size w w' := by
  have H := Lib.hid h
  clear h
  go_enter Tryz.func115, Tryz.ntmps115
  go_wp2_with (go_at_call 108; (with_reducible refine (H.out).mono ?_); rintro e w1 ⟨rfl, hb1⟩; have HB1 := Lib.hid hb1; clear hb1)
  go_ret
  exact ⟨rfl, HB1.out⟩
theorem ex5_2 {x y : Value} {w : World} {b : Bool} (h : Calls Tryz.prog 109 #[x, y] w fun e w' => e = .returned (.bool b) ∧ Below w.heap.size w w') :
    Calls Tryz.prog 115 #[.func (.func 109) #[] #[x, y]] w fun e w' => e = .returned (.bool b) ∧ Below w.heap.size w w' := by
  have H := Lib.hid h
  clear h
  go_enter Tryz.func115, Tryz.ntmps115
  go_wp2_with (go_at_call 109; (with_reducible refine (H.out).mono ?_); rintro e w1 ⟨rfl, hb1⟩; have HB1 := Lib.hid hb1; clear hb1)
  go_ret
  exact ⟨rfl, HB1.out⟩
theorem ex5_3 {x y : Value} {w : World} {b : Bool} (h : Calls Tryz.prog 110 #[x, y] w fun e w' => e = .returned (.bool b) ∧ Below w.heap.size w w') :
    Calls Tryz.prog 115 #[.func (.func 110) #[] #[x, y]] w fun e w' => e = .returned (.bool b) ∧ Below w.heap.size w w' := by
  have H := Lib.hid h
  clear h
  go_enter Tryz.func115, Tryz.ntmps115
  go_wp2_with (go_at_call 110; (with_reducible refine (H.out).mono ?_); rintro e w1 ⟨rfl, hb1⟩; have HB1 := Lib.hid hb1; clear hb1)
  go_ret
  exact ⟨rfl, HB1.out⟩
theorem ex5_4 {x y : Value} {w : World} {b : Bool} (h : Calls Tryz.prog 112 #[x, y] w fun e w' => e = .returned (.bool b) ∧ Below w.heap.size w w') :
    Calls Tryz.prog 115 #[.func (.func 112) #[] #[x, y]] w fun e w' => e = .returned (.bool b) ∧ Below w.heap.size w w' := by
  have H := Lib.hid h
  clear h
  go_enter Tryz.func115, Tryz.ntmps115
  go_wp2_with (go_at_call 112; (with_reducible refine (H.out).mono ?_); rintro e w1 ⟨rfl, hb1⟩; have HB1 := Lib.hid hb1; clear hb1)
  go_ret
  exact ⟨rfl, HB1.out⟩

set_option maxHeartbeats 1000000 in
theorem idxF_anyV (p n : Nat) (fs : List Value) (w : World) (hn : n ≤ 1000) (h : Blk w p fs 32) (hl : fs.length = n) (g : Nat → Bool)
    (hg : ∀ w', Below w.heap.size w w' → ∀ j, j < n → ∀ v, fs[j]? = some v → Calls Tryz.prog 115 #[v] w' fun e w'' => e = .returned (.bool (g j)) ∧ Below w'.heap.size w' w'') :
    Calls Tryz.prog 127 #[.slice (some ⟨p, 0, none⟩) n n, .func (.func 115) #[] #[]] w fun e w' => ∃ r, e = .returned (.int .i64 r) ∧ IxP n g r ∧ Below w.heap.size w w' := by
  have HG := Lib.hid hg
  have HBK := Lib.hid h
  clear h hg
  go_enter Tryz.func127, Tryz.ntmps127
  go_wp2
  go_loopw [8] (fun i wx => IxR n g w i wx) (fun i _ => n - (intOf i).toNat)
  case atStart => exact ⟨0, by omega, rfl, fun j hj => absurd hj (Nat.not_lt_zero _), Below.refl _ _⟩
  case round =>
    obtain ⟨k, hk, rfl, hall, hb⟩ := hrel
    have HA := Lib.hid hall
    clear hall
    by_cases hlt : k < n
    · obtain ⟨v, hv⟩ : ∃ v, fs[k]? = some v := ⟨fs[k]'(by omega), List.getElem?_eq_getElem (by omega)⟩
      have hk1 : wr.cell? ⟨p, k, none⟩ = some v := (bcell hb _ _ HBK.out.lt).trans ((HBK.out.cell _).trans hv)
      have HC := Lib.hid (HG.out _ hb k hlt v hv)
      clear hv
      cases g1 : g k with
      | true =>
        have HK : Hid (_ = true) := Lib.hid g1
        rw [g1] at HC
        clear g1
        go_wp2_with (go_at_call 115; refine (HC.out).mono ?_; rintro e w1 ⟨rfl, hb1⟩)
        go_ret
        exact ⟨_, rfl, .inr ⟨k, hlt, rfl, HK.out, HA.out⟩, bon hb hb1⟩
      | false =>
        have HN := Lib.hid (lt_succ_all HA.out g1)
        rw [g1] at HC
        clear g1
        go_wp2_with (go_at_call 115; refine (HC.out).mono ?_; rintro e w1 ⟨rfl, hb1⟩)
        first
          | (go_roundw
             case rel => (exact ⟨k + 1, by omega, by go_num, HN.out, bon hb hb1⟩)
             case measure => (simp [intOf]; omega))
          | (refine ⟨?_, ?_⟩
             · (exact ⟨k + 1, by omega, by go_num, HN.out, bon hb hb1⟩)
             · (simp [intOf]; omega))
    · have HN : Hid (∀ j, j < n → g j = false) := Lib.hid (fun j hj => HA.out j (by omega))
      go_wp2
      go_ret
      exact ⟨_, rfl, .inl ⟨rfl, HN.out⟩, hb⟩

set_option maxHeartbeats 1000000 in
theorem ctnF_anyV (p n : Nat) (fs : List Value) (w : World) (hn : n ≤ 1000) (h : Blk w p fs 32) (hl : fs.length = n) (g : Nat → Bool)
    (hg : ∀ w', Below w.heap.size w w' → ∀ j, j < n → ∀ v, fs[j]? = some v → Calls Tryz.prog 115 #[v] w' fun e w'' => e = .returned (.bool (g j)) ∧ Below w'.heap.size w' w'') :
    Calls Tryz.prog 114 #[.slice (some ⟨p, 0, none⟩) n n, .func (.func 115) #[] #[]] w fun e w' => e = .returned (.bool (anyR n g)) ∧ Below w.heap.size w w' := by
  have HI := Lib.hid (idxF_anyV p n fs w hn h hl g hg)
  clear h hg
  go_enter Tryz.func114, Tryz.ntmps114
  go_wp2_with (go_at_call 127; refine (HI.out).mono ?_; rintro e w1 ⟨r, rfl, hr, hb1⟩; have HR := Lib.hid hr; clear hr)
  go_ret
  exact ⟨ret_bool HR.out.any, hb1⟩

/-- Whether the assignment excludes the support. -/
def excV (u : SU) (a : List Int) : Bool := impB u || inB a u.b || ex2V u a || ex3V u a || ex4V u a

def excGV (u : SU) (a : List Int) : Nat → Bool
  | 0 => impB u
  | 1 => inB a u.b
  | 2 => ex2V u a
  | 3 => ex3V u a
  | _ => ex4V u a

theorem exc_anyV (u : SU) (a : List Int) : anyR 5 (excGV u a) = excV u a := by
  have e : List.range 5 = [0, 1, 2, 3, 4] := rfl
  unfold anyR
  rw [e]
  simp [excGV, excV, Bool.or_assoc]

theorem env_newV {w : World} {vh vb vw vs : Value} {u : SU} {ab : Nat} {a : List Int} (h : SupIs w (.agg #[.bool u.r.choice, vh, .bool u.r.sum, .int .i64 u.r.bound, vb, vw, .int .i64 u.b, vs]) u) (ha : InV w ab a) :
    EnvUV ((w.alloc (.cells #[.bool u.r.choice, vh, .bool u.r.sum, .int .i64 u.r.bound, vb, vw, .int .i64 u.b, vs] 68)).alloc (.cells #[.func (.func 43) #[] #[.pointer (some ⟨ab, 0, none⟩)]] 77)) w.heap.size (w.heap.size + 1) ab u a ∧
    Below w.heap.size w ((w.alloc (.cells #[.bool u.r.choice, vh, .bool u.r.sum, .int .i64 u.r.bound, vb, vw, .int .i64 u.b, vs] 68)).alloc (.cells #[.func (.func 43) #[] #[.pointer (some ⟨ab, 0, none⟩)]] 77)) := by
  obtain ⟨_, _, _, _, e, hsl, hS, hb⟩ := h
  simp only [Value.agg.injEq, Array.mk.injEq, List.cons.injEq, and_true] at e
  obtain ⟨-, rfl, -, -, rfl, rfl, -, rfl⟩ := e
  have hal := bal (Below.refl w.heap.size w) (.cells #[.bool u.r.choice, vh, .bool u.r.sum, .int .i64 u.r.bound, vb, vw, .int .i64 u.b, vs] 68)
  have hbk := Blk.new w [.bool u.r.choice, vh, .bool u.r.sum, .int .i64 u.r.bound, vb, vw, .int .i64 u.b, vs] 68
  have hsup : SupB _ w.heap.size u := ⟨vh, vb, vw, vs, hbk, hsl.below hal, hS.below hal, hb⟩
  have hz : (w.alloc (.cells #[.bool u.r.choice, vh, .bool u.r.sum, .int .i64 u.r.bound, vb, vw, .int .i64 u.b, vs] 68)).heap.size = w.heap.size + 1 := World.size_alloc ..
  have ha1 := ha.below hal
  generalize w.alloc (.cells #[.bool u.r.choice, vh, .bool u.r.sum, .int .i64 u.r.bound, vb, vw, .int .i64 u.b, vs] 68) = W1 at *
  have hal1 := bal (Below.refl W1.heap.size W1) (.cells #[.func (.func 43) #[] #[.pointer (some ⟨ab, 0, none⟩)]] 77)
  have hb1 := Blk.new W1 [.func (.func 43) #[] #[.pointer (some ⟨ab, 0, none⟩)]] 77
  rw [hz] at hb1
  exact ⟨⟨hsup.below hal1, hb1, ha1.below hal1⟩, hal.trans (hal1.mono (by omega))⟩

theorem ways_anyV {W : World} {x : Value} {sb fb ab : Nat} {u : SU} {a : List Int} (h : EnvUV W sb fb ab u a) (hs : SupIs W x u) (hok : SUok u) :
    Calls Tryz.prog 114 #[.slice (some ⟨W.heap.size, 0, none⟩) 5 5, .func (.func 115) #[] #[]] (W.alloc (.cells #[.func (.func 71) #[x] #[], .func (.func 108) #[] #[.pointer (some ⟨fb, 0, none⟩), .pointer (some ⟨sb, 0, none⟩)], .func (.func 109) #[] #[.pointer (some ⟨sb, 0, none⟩), .pointer (some ⟨fb, 0, none⟩)], .func (.func 110) #[] #[.pointer (some ⟨sb, 0, none⟩), .pointer (some ⟨fb, 0, none⟩)], .func (.func 112) #[] #[.pointer (some ⟨sb, 0, none⟩), .pointer (some ⟨fb, 0, none⟩)]] 32)) fun e w' => e = .returned (.bool (excV u a)) ∧ Below W.heap.size W w' := by
  have hbk := Blk.new W [.func (.func 71) #[x] #[], .func (.func 108) #[] #[.pointer (some ⟨fb, 0, none⟩), .pointer (some ⟨sb, 0, none⟩)], .func (.func 109) #[] #[.pointer (some ⟨sb, 0, none⟩), .pointer (some ⟨fb, 0, none⟩)], .func (.func 110) #[] #[.pointer (some ⟨sb, 0, none⟩), .pointer (some ⟨fb, 0, none⟩)], .func (.func 112) #[] #[.pointer (some ⟨sb, 0, none⟩), .pointer (some ⟨fb, 0, none⟩)]] 32
  have hal := bal (Below.refl W.heap.size W) (.cells #[.func (.func 71) #[x] #[], .func (.func 108) #[] #[.pointer (some ⟨fb, 0, none⟩), .pointer (some ⟨sb, 0, none⟩)], .func (.func 109) #[] #[.pointer (some ⟨sb, 0, none⟩), .pointer (some ⟨fb, 0, none⟩)], .func (.func 110) #[] #[.pointer (some ⟨sb, 0, none⟩), .pointer (some ⟨fb, 0, none⟩)], .func (.func 112) #[] #[.pointer (some ⟨sb, 0, none⟩), .pointer (some ⟨fb, 0, none⟩)]] 32)
  refine (ctnF_anyV _ 5 _ _ (by omega) hbk rfl (excGV u a) fun w' hb' j hj v hv => ?_).mono fun e w' ⟨he, hb'⟩ => ⟨by rw [he, exc_anyV], hal.trans (hb'.mono hal.size)⟩
  have hbw := hal.trans (hb'.mono hal.size)
  have hE := h.below hbw
  match j, hj, hv with
  | 0, _, hv => cases hv; exact ex5_imp (impossible_any _ _ _ (hs.below hbw) hok)
  | 1, _, hv => cases hv; exact ex5_1 ((ex1_anyV hE hok).mono fun e w'' ⟨e1, e2⟩ => ⟨e1, e2 ▸ Below.refl _ _⟩)
  | 2, _, hv => cases hv; exact ex5_2 (ex2_anyV hE hok)
  | 3, _, hv => cases hv; exact ex5_3 (ex3_anyV hE hok)
  | 4, _, hv => cases hv; exact ex5_4 (ex4_anyV hE hok)

set_option maxHeartbeats 4000000 in
set_option maxRecDepth 100000 in
theorem excluded_anyV (v : Value) (u : SU) (ab : Nat) (a : List Int) (w : World) (h : SupIs w v u) (hok : SUok u) (ha : InV w ab a) :
    Calls Tryz.prog 83 #[v, .func (.func 43) #[] #[.pointer (some ⟨ab, 0, none⟩)]] w fun e w' => e = .returned (.bool (excV u a)) ∧ Below w.heap.size w w' := by
  have h0 := h
  obtain ⟨vh, vb, vw, vs, rfl, -, -, -⟩ := h
  obtain ⟨hE, hal⟩ := env_newV h0 ha
  have hw := ways_anyV hE (h0.below hal) hok
  simp only [World.size_alloc] at hw
  have HW := Lib.hid hw
  have HAL := Lib.hid hal
  clear hw hal hE h0 ha hok
  go_enter Tryz.func83, Tryz.ntmps83
  go_upto_region 2 with fail
  go_wp2_with (go_at_call 114; (with_reducible refine HW.out.mono ?_); rintro e w2 ⟨rfl, hb2⟩; have HB2 := Lib.hid hb2; clear hb2)
  go_ret
  exact ⟨rfl, HAL.out.trans (HB2.out.mono (by omega))⟩

end Go.Proofs.YtfhikjmddclmgaaGreatDoor
