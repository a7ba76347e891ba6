/- My texts Bld, Pb1, Pb2, ExtR, Pb3, PbS, Aw0, merged. -/
import Derived.Test.YtfhpfbakoiekpaaGreatDoorM07
import Derived.Test.YtfhpfbakoiekpaaGreatDoorM00
import Derived.Deep.DeepCutAuto
import Derived.WalkKit
import Derived.Test.YtfhpfbakoiekpaaGreatDoorM04
import Derived.RangeFuncNested
import Derived.RangeFuncBound
import Derived.RangeFuncCalls
import Derived.RangeFuncLeaves
import Derived.OwnWalkIn
import Derived.TacticsInMore
import Derived.LoopNIn
import Derived.LoopIn
import Derived.Stop.RegionWithIn
import Derived.Shelf.Abstract
import Derived.Sort.QuietThIn
import Derived.Test.YtfhpfbakoiekpaaGreatDoorM05

/- strings.Builder: copyCheck, WriteString (a builder of the call's own). -/
namespace Go.Proofs.YtfhpfbakoiekpaaGreatDoor
open Go.RowKit

abbrev BAt (B b : Nat) (p : Value) (bs : List Value) (w : World) : Prop := Lib.BuilderAtF 99 5 B b p bs w
abbrev IsB (B b : Nat) (bs : List Value) (w : World) : Prop := Lib.IsBuilderF 99 5 B b bs w

theorem infoB : (Tryz.prog.info? 5).map (fun i => (i.zero, i.size, i.bytes)) = some (some (.int .u8 0), 1, 1) := by kernel_rfl
theorem sizeB : (Tryz.prog.info? 99).map (·.size) = some 2 := by kernel_rfl

set_option maxHeartbeats 1000000 in
set_option maxRecDepth 100000 in
theorem cc_fresh (b : Nat) (w : World) (h0 : w.cell? ⟨b, 0, none⟩ = some (.pointer none)) (hsh : w.shape? b = some (99, 2)) (hfz : w.frozen? ⟨b, 0, none⟩ = false) :
    Calls Tryz.prog 115 #[.pointer (some ⟨b, 0, none⟩)] w fun e w' => e = .returned (.tuple #[]) ∧ w' = w.setCell ⟨b, 0, none⟩ (.pointer (some ⟨b, 0, none⟩)) := by
  obtain ⟨j, hj, hjs⟩ := Option.map_eq_some_iff.1 sizeB
  go_enter Tryz.func115, Tryz.ntmps115
  go_wp2
  rw [Lib.run_to_unsafe w ⟨b, 0, none⟩ Tryz.underlying96 Tryz.underlying146 hj (by rw [hjs]; decide) hsh (Nat.zero_lt_succ 1)]
  simp only [Result.andThen]
  rw [Oper.upon_value]
  go_wp2
  rw [run_callFunc_extern Tryz.func145 (by kernel_rfl) (by kernel_rfl) (by kernel_rfl) (e := Extern.AbiNoEscape.same) (by kernel_rfl)]
  rw [Lib.run_noEscape]
  simp only [Result.andThen]
  rw [Oper.upon_value]
  go_wp2
  rw [Lib.run_from_unsafe w ⟨b, 0, none⟩ Tryz.underlying146 Tryz.underlying96 hj hsh Tryz.Builder_Extra_169.toX72.liesBuilder]
  simp only [Result.andThen]
  rw [Oper.upon_value]
  go_wp2
  go_end0
  exact ⟨rfl, rfl⟩

set_option maxHeartbeats 1000000 in
set_option maxRecDepth 100000 in
theorem cc_used (b : Nat) (w : World) (h0 : w.cell? ⟨b, 0, none⟩ = some (.pointer (some ⟨b, 0, none⟩))) :
    Calls Tryz.prog 115 #[.pointer (some ⟨b, 0, none⟩)] w fun e w' => e = .returned (.tuple #[]) ∧ w' = w := by
  obtain ⟨j, hj, _⟩ := Option.map_eq_some_iff.1 sizeB
  go_enter Tryz.func115, Tryz.ntmps115
  go_wp2
  rw [Lib.run_neq_ptr_same w _ Tryz.underlying96 hj]
  go_wp2
  go_end0
  exact ⟨rfl, rfl⟩

theorem cc_any (B b : Nat) (bs : List Value) (w : World) (h : IsB B b bs w) :
    Calls Tryz.prog 115 #[.pointer (some ⟨b, 0, none⟩)] w fun e w' => e = .returned (.tuple #[]) ∧ (BAt B b (.pointer (some ⟨b, 0, none⟩)) bs w' ∧ Below B w w' ∧ Lib.OthersKept 5 (some b) w w') := by
  rcases h with h | h
  · refine (cc_fresh b w h.cell0 h.shape h.frozen0).mono ?_
    rintro e w' ⟨rfl, rfl⟩
    exact ⟨rfl, h.used _, (Below.refl B w).setCell (p := ⟨b, 0, none⟩) h.1 _, (Lib.OthersKept.refl _ _ w).setCell ⟨b, 0, none⟩ rfl _⟩
  · refine (cc_used b w h.cell0).mono ?_
    rintro e w' ⟨rfl, rfl⟩
    exact ⟨rfl, h, Below.refl B _, Lib.OthersKept.refl _ _ _⟩

set_option maxHeartbeats 2000000 in
set_option maxRecDepth 100000 in
theorem ws_any (B b : Nat) (bs : List Value) (s : ByteArray) (w : World) (h : IsB B b bs w) (hlen : bs.length + s.size ≤ 140737488355328) (hBw : B ≤ w.heap.size) :
    Calls Tryz.prog 72 #[.pointer (some ⟨b, 0, none⟩), .string s] w fun e w' => e = .returned (.tuple #[.int .i64 s.size, .nilIface]) ∧ (BAt B b (.pointer (some ⟨b, 0, none⟩)) (bs ++ Lib.strCells s) w' ∧ Below B w w' ∧ Lib.OthersKept 5 (some b) w w') := by
  obtain ⟨i0, hi, hz0, hz1, hz2⟩ := info_parts infoB
  go_enter Tryz.func72, Tryz.ntmps72
  go_wp2_with (go_at_call 115; refine (cc_any B b bs _ h).mono ?_)
  rintro e w1 ⟨rfl, h1, hb1, hk1⟩
  obtain ⟨hB, v, hbk, hown, hne⟩ := h1
  have c0 : w1.cell? ⟨b, 0, none⟩ = some (.pointer (some ⟨b, 0, none⟩)) := by rw [Lib.cell_of_heap hbk]; rfl
  have c1 : w1.cell? ⟨b, 1, none⟩ = some v := by rw [Lib.cell_of_heap hbk]; rfl
  go_wp2_with (at_builtin; refine Lib.wpList_append_own_stringF _ rfl _ _ 97 9 rfl B 5 i0 Tryz.underlying97 Tryz.underlying9 hi hz0 hz1 hz2 _ _ _ rfl hown s rfl ?c3 ?c4 ?c5 ?_)
  case c3 => unfold maxLen; omega
  case c4 => omega
  case c5 => have := hb1.size; omega
  intro v' w2 hown' hgrow _
  have hlt : b < w1.heap.size := (Array.getElem?_eq_some_iff.1 hbk).1
  have hb2 : w2.heap[b]? = some (.cells #[.pointer (some ⟨b, 0, none⟩), v] 99 (0, 0)) := by
    rw [hgrow.block b hlt (fun e => hne e.symm)]
    exact hbk
  have d0 : w2.cell? ⟨b, 0, none⟩ = some (.pointer (some ⟨b, 0, none⟩)) := by rw [Lib.cell_of_heap hb2]; rfl
  have d1 : w2.cell? ⟨b, 1, none⟩ = some v := by rw [Lib.cell_of_heap hb2]; rfl
  have f1 : w2.frozen? ⟨b, 1, none⟩ = false := Lib.frozen_of_heap hb2 1
  obtain ⟨ao, n', cap, rfl⟩ : ∃ ao n' cap, v' = .slice ao n' cap := by
    rcases hown'.2 with ⟨hv, _⟩ | ⟨g, cap, cur, fz, hv, _⟩
    · exact ⟨_, _, _, hv⟩
    · exact ⟨_, _, _, hv⟩
  go_wp2
  go_ret2
  refine ⟨rfl, ?_, ?_, (hk1.grown hgrow (Lib.ownsRowF_kind hown)).setCell ⟨b, 1, none⟩ rfl _⟩
  · exact Lib.BuilderAtF.put (T := 99) (e := 5) hB hb2 (bs' := bs ++ Lib.strCells s) (by simpa [Lib.strCells_length] using hown') (by decide)
  · exact (hb1.grown hgrow (by have := hb1.size; omega) (fun k hk => (hown.lt k hk).1)).setCell (p := ⟨b, 1, none⟩) hB _

end Go.Proofs.YtfhpfbakoiekpaaGreatDoor

/- pb: literal, abs, the iterator parts$1: contracts. -/
namespace Go.Proofs.YtfhpfbakoiekpaaGreatDoor
open Go.RowKit Go.Shelf
attribute [local go_sem] Oper.semAt_some

/-- A constraint in memory. -/
def PBIs (w : World) (v : Value) (c : PBC) : Prop := ∃ vl vk, v = .agg #[vl, vk, .int .i64 c.bound] ∧ Ints w vl c.lits ∧ Ints w vk c.coefs ∧ InI c.bound

theorem PBIs.below {w w' : World} {v : Value} {c : PBC} (h : PBIs w v c) (hb : Below w.heap.size w w') : PBIs w' v c :=
  let ⟨vl, vk, e, h1, h2, h3⟩ := h; ⟨vl, vk, e, h1.below hb, h2.below hb, h3⟩

theorem pliteral_any (l : Int) (w : World) : Calls Tryz.prog 102 #[.int .i64 l] w fun e w' => e = .returned (.bool (plitB l)) ∧ w = w' := by
  by_cases h0 : l = 0
  · subst h0
    go_enter Tryz.func102, Tryz.ntmps102
    go_wp2
    go_ret
    exact ⟨rfl, rfl⟩
  · by_cases h1 : -65536 ≤ l
    · by_cases h2 : l ≤ 65536
      · have HF : Hid (plitB l = true) := Lib.hid (by unfold plitB; simp [h0, h1, h2])
        go_enter Tryz.func102, Tryz.ntmps102
        go_wp2
        go_ret
        exact ⟨ret_bool (by rw [HF.out]; try simp_all), rfl⟩
      · have HF : Hid (plitB l = false) := Lib.hid (by unfold plitB; simp [h2])
        go_enter Tryz.func102, Tryz.ntmps102
        go_wp2
        go_ret
        exact ⟨ret_bool (by rw [HF.out]; try simp_all), rfl⟩
    · have HF : Hid (plitB l = false) := Lib.hid (by unfold plitB; simp [h1])
      go_enter Tryz.func102, Tryz.ntmps102
      go_wp2
      go_ret
      exact ⟨ret_bool (by rw [HF.out]; try simp_all), rfl⟩

theorem abs_any (l : Int) (hl : -4611686018427387904 ≤ l ∧ l ≤ 4611686018427387904) (w : World) : Calls Tryz.prog 74 #[.int .i64 l] w fun e w' => e = .returned (.int .i64 l.natAbs) ∧ w = w' := by
  go_enter Tryz.func74, Tryz.ntmps74
  go_wp2
  all_goals
    go_ret
    refine ⟨ret_int ?_, rfl⟩
    omega

theorem parts_any (vl vk : Value) (bd : Int) (w : World) (hl : ∃ a n c, vl = .slice a n c) (hk : ∃ a n c, vk = .slice a n c) :
    Calls Tryz.prog 71 #[.agg #[vl, vk, .int .i64 bd]] w fun e w' => e = .returned (.func (.func 114) #[] #[.pointer (some ⟨w.heap.size, 0, none⟩)]) ∧ Below w.heap.size w w' ∧ Blk w' w.heap.size [vl, vk, .int .i64 bd] 30 := by
  obtain ⟨a1, n1, c1, rfl⟩ := hl
  obtain ⟨a2, n2, c2, rfl⟩ := hk
  have HB : Hid (Below w.heap.size w (w.alloc (.cells #[.slice a1 n1 c1, .slice a2 n2 c2, .int .i64 bd] 30))) := Lib.hid (bal (Below.refl _ _) _)
  have HK := Lib.hid (Blk.new w [.slice a1 n1 c1, .slice a2 n2 c2, .int .i64 bd] 30)
  go_enter Tryz.func71, Tryz.ntmps71
  go_wp2
  go_ret
  exact ⟨rfl, HB.out, HK.out⟩

/-- What parts yields. -/
abbrev PV (c : PBC) := { q : Int × Int // q ∈ c.lits.zip c.coefs }

def pvs {c : PBC} (l : List (PV c)) : List (Int × Int) := l.map (·.1)
theorem pvs_snoc {c : PBC} (l : List (PV c)) (x : PV c) : pvs (l ++ [x]) = pvs l ++ [x.1] := by simp [pvs]
theorem pvs_len {c : PBC} (l : List (PV c)) : (pvs l).length = l.length := by simp [pvs]

theorem zip_at {L K : List Int} {k : Nat} (hk : k < L.length) (hl : L.length = K.length) : (L.zip K)[k]? = some (ix L k, ix K k) := by
  simp only [ix, List.getD_eq_getElem?_getD, List.getElem?_zip_eq_some, List.getElem?_eq_getElem hk, List.getElem?_eq_getElem (show k < K.length by omega), Option.getD_some, and_self]

theorem zip_take {L K : List Int} {k : Nat} (hk : k < L.length) (hl : L.length = K.length) : (L.zip K).take (k + 1) = (L.zip K).take k ++ [(ix L k, ix K k)] := by
  rw [List.take_add_one, zip_at hk hl]
  rfl

/-- What the iterator leans on. -/
structure PartSt (wi w : World) (S : List Nat) (cb : Nat) (vl vk : Value) (bd : Int) : Prop where
  below : ∀ i, i < wi.heap.size → w.heap[i]? = wi.heap[i]?
  size : wi.heap.size ≤ w.heap.size
  box : Blk w cb [vl, vk, .int .i64 bd] 30

theorem PartSt.lim {wi w w' : World} {S : List Nat} {cb n : Nat} {vl vk : Value} {bd : Int} (h : PartSt wi w S cb vl vk bd) (hl : Lim n S w w') (hn : wi.heap.size ≤ n) (hcb : cb < n) (hS : ∀ s ∈ S, wi.heap.size ≤ s) (hne : cb ∉ S) : PartSt wi w' S cb vl vk bd :=
  ⟨fun i hi => (hl.block i (by omega) (fun hm => by have := hS i hm; omega)).trans (h.below i hi), Nat.le_trans h.size hl.size, h.box.same (hl.block cb hcb hne)⟩

def PartRel (c : PBC) (n0 : Nat) (S : List Nat) (W0 : World) (J : List (PV c) → World → Prop) (i : Value) (wr : World) : Prop :=
  ∃ (k : Nat) (pre : List (PV c)), k ≤ c.lits.length ∧ i = .int .i64 k ∧ pvs pre = (c.lits.zip c.coefs).take k ∧ J pre wr ∧ Lim n0 S W0 wr

theorem cell_of_same {w w' : World} {b o : Nat} (h : w'.heap[b]? = w.heap[b]?) : w'.cell? ⟨b, o, none⟩ = w.cell? ⟨b, o, none⟩ := World.cell?_of_block h

theorem yieldEnd2 {e : Ending} {A B : Prop} (h : (e = .returned (.bool true) ∧ A) ∨ (e = .returned (.bool false) ∧ B)) : ∃ b, e = .returned (.bool b) ∧ (b = true → A) ∧ (b = false → B) := by
  rcases h with ⟨rfl, h⟩ | ⟨rfl, h⟩
  · exact ⟨true, rfl, fun _ => h, fun e => (Bool.noConfusion e)⟩
  · exact ⟨false, rfl, (fun e => Bool.noConfusion e), fun _ => h⟩

set_option maxHeartbeats 4000000 in
set_option maxRecDepth 100000 in
theorem parts_stops (c : PBC) (wi w0 : World) (vl vk : Value) (hL : Ints wi vl c.lits) (hK : Ints wi vk c.coefs) (hlen : c.lits.length = c.coefs.length) (S : List Nat) (cb : Nat)
    (hst : PartSt wi w0 S cb vl vk c.bound) (hS : ∀ s ∈ S, wi.heap.size ≤ s) (hne : cb ∉ S) (n : Nat) (hn : 1 ≤ n) :
    SeqStopsK Fence.wide n Tryz.prog 114 #[.pointer (some ⟨cb, 0, none⟩)] (fun x : PV c => #[.int .i64 x.1.1, .int .i64 x.1.2]) (Lim w0.heap.size S)
      (fun xs => pvs xs = c.lits.zip c.coefs) (fun pre => ∃ k, k ≤ c.lits.length ∧ pvs pre = (c.lits.zip c.coefs).take k) c.lits.length w0 := by
  intro l J Jx W hW hJ hJx hY h0
  obtain ⟨a1, c1, rfl, -, hl1, -, hcell1⟩ := hL.form
  obtain ⟨a2, c2, rfl, -, hl2, -, hcell2⟩ := hK.form
  have HC1 := Lib.hid hcell1
  have HC2 := Lib.hid hcell2
  have HY := Lib.hid hY
  have HJ := Lib.hid hJ
  have HJX := Lib.hid hJx
  have H0 := Lib.hid h0
  have HLEN := Lib.hid hlen
  have hcbl := hst.box.lt
  have hsz := hst.size
  have HS0 : Hid (PartSt wi W S cb (.slice a1 c.lits.length c1) (.slice a2 c.coefs.length c2) c.bound) := Lib.hid (hst.lim (.of_below hW (Nat.le_refl _)) hsz hcbl hS hne)
  have HS := Lib.hid hS
  have HNE := Lib.hid hne
  have kp := HS0.out.box.cell
  have hzW := hW.size
  clear hst hY hJ hJx h0 hW hcell1 hcell2 hL hK hS hne hlen
  refine callsIn_of_wp Tryz.func114 rfl trivial ?_ rfl
  simp only [Tryz.ntmps114, List.size_toArray, List.length_cons, List.length_nil, Nat.reduceAdd, Nat.reduceSub, Array.replicate_succ, Array.replicate_zero, List.push_toArray, List.append_toArray, List.nil_append, List.cons_append]
  gi_wp2
  clear kp
  gi_loopw [8] (fun i wr => PartRel c w0.heap.size S W J i wr) (fun i _ => c.lits.length - (intOf i).toNat)
  case atStart => exact ⟨0, [], Nat.zero_le _, rfl, by simp [pvs], H0.out, Lim.refl _ _ _⟩
  case round =>
    obtain ⟨k, pre, hk, rfl, hpre, hj, hlim⟩ := hrel
    have HJR := Lib.hid hj
    have HPRE := Lib.hid hpre
    have HLIM := Lib.hid hlim
    have HSR := Lib.hid (HS0.out.lim hlim hsz hcbl HS.out HNE.out)
    clear hj hpre hlim
    by_cases hlt : k < c.lits.length
    · have hlt2 : k < c.coefs.length := by have := HLEN.out; omega
      obtain ⟨b1, o1, rfl, hb1, hc1⟩ := HC1.out (by omega)
      obtain ⟨b2, o2, rfl, hb2, hc2⟩ := HC2.out (by omega)
      have k1 := (cell_of_same (o := o1 + k) (HSR.out.below b1 hb1)).trans (hc1 k hlt)
      have k2 := (cell_of_same (o := o2 + k) (HSR.out.below b2 hb2)).trans (hc2 k hlt2)
      have kr := HSR.out.box.cell
      have HLN : Hid (pre.length < c.lits.length) := Lib.hid (by
        have h1 := congrArg List.length HPRE.out
        rw [pvs_len, List.length_take] at h1
        have := Nat.min_le_left k (c.lits.zip c.coefs).length
        omega)
      have HM : Hid ((ix c.lits k, ix c.coefs k) ∈ c.lits.zip c.coefs) := Lib.hid (List.mem_of_getElem? (zip_at hlt HLEN.out))
      have HZ := Lib.hid (zip_take hlt HLEN.out)
      clear hc1 hc2
      obtain ⟨fn, tmps, assign, body, hy, hR⟩ := HY.out pre ⟨_, HM.out⟩ wr HJR.out HLN.out
      dsimp only at hy
      gi_wp2_with (refine hR.mono ?_; rintro e W3 h3; obtain ⟨bb, rfl, hbt, hbf⟩ := yieldEnd2 h3; have HBT := Lib.hid hbt; have HBF := Lib.hid hbf; clear hbt hbf h3)
      case roundEnd =>
        obtain rfl : bb = true := by simpa using ‹(!bb) = false›
        exact ⟨⟨k + 1, pre ++ [_], hlt, by go_num, by rw [pvs_snoc, HPRE.out, HZ.out], (HBT.out (by first | exact rfl | exact trivial)).1, HLIM.out.trans (HBT.out (by first | exact rfl | exact trivial)).2⟩, by simp [intOf]; omega⟩
      obtain rfl : bb = false := by simpa using ‹(!bb) = true›
      refine bodyPost_ret (results_none rfl _ _ _) rfl ?_
      exact ⟨⟨_, rfl⟩, .inr ⟨pre ++ [_], ⟨k + 1, hlt, by rw [pvs_snoc, HPRE.out, HZ.out]⟩, HBF.out (by first | exact rfl | exact trivial)⟩⟩
    · gi_wp2
      go_end0
      obtain rfl : k = c.lits.length := by omega
      exact ⟨⟨_, rfl⟩, .inl ⟨pre, by rw [HPRE.out, List.take_of_length_le (by rw [List.length_zip]; exact Nat.min_le_left _ _)], HJR.out⟩⟩

end Go.Proofs.YtfhpfbakoiekpaaGreatDoor

/- pb.Valid: its contract. -/
namespace Go.Proofs.YtfhpfbakoiekpaaGreatDoor
open Go.RowKit Go.Shelf
attribute [local go_sem] Oper.semAt_some

theorem blk_ownP {β : Type} (b : Nat) (c : List Value) (t : TypeId) : Own (fun (_ : β) W => Blk W b c t) := fun s X Y row hs hg hrow => by
  have hne : some b ≠ row := fun e' => by
    obtain ⟨_, ho, hc⟩ := hrow b e'.symm
    rw [show X.heap[b]? = _ from hs] at ho
    cases ho
    cases hc
  exact hs.same (hg.block b hs.lt hne)

theorem lim_b {S : List Nat} {w : World} (W : World) (l : Nat) (o o' : Obj) (hl : w.heap.size ≤ l) (h : W.heap[l]? = some o) (hc : o.isCells = false) (hw : o.isWalk = false) : Lim w.heap.size S W (W.putObj l o') :=
  .of_below (belowK_b (w := w) (Nat.le_refl _) W l o o' hl h hc hw) (Nat.le_refl _)

/-- A range over the parts of a constraint. -/
theorem parts_loop {c : PBC} {wi w1 : World} {vl vk : Value} (hL : Ints wi vl c.lits) (hK : Ints wi vk c.coefs) (hlen : c.lits.length = c.coefs.length) {S : List Nat} {cb : Nat}
    (hst : PartSt wi w1 S cb vl vk c.bound) (hS : ∀ s ∈ S, wi.heap.size ≤ s) (hne : cb ∉ S)
    {g : Operand} {ps : Array Tmp} {assign body : Code} {Q : Exit → Act → World → Prop} {a : Act} {n : Nat} (hn : 3 ≤ n)
    (hg : a.eval g = .func (.func 114) #[] #[.pointer (some ⟨cb, 0, none⟩)]) (hps : ps.size = 2)
    (I : List (PV c) → World → Prop) (Ix : Code → List (PV c) → World → Prop) (hI : OwnFrom w1.heap.size I) (hIx : ∀ c', OwnFrom w1.heap.size (Ix c')) (h0 : I [] w1) (a₁ : PV c → Act)
    (hassign : ∀ (l : Nat) (x : PV c) (W : World) (K : Act → World → Prop), K (a₁ x) W →
      assign.wpIn (Fence.wide.inRound l) (n - 1 - 1) Tryz.prog (Exit.then K (fun _ _ _ => False)) { tmps := (ps.zip #[Value.int .i64 x.1.1, .int .i64 x.1.2]).foldl (fun t (p, v) => t.setIfInBounds p v) a.tmps, defers := [] } W)
    (hbody : ∀ (l : Nat) (pre : List (PV c)) (x : PV c) (W : World), I pre W → pre.length < c.lits.length → body.wpIn (Fence.wide.inRound l) (n - 1 - 1) Tryz.prog (ownPostK (Lim w1.heap.size S) I Ix (pre ++ [x]) W) (a₁ x) W)
    (hdone : ∀ (D : Nat) (xs : List (PV c)) (W : World), w1.heap.size ≤ D → pvs xs = c.lits.zip c.coefs → I xs W → W.heap[D]? = some (.deferred (some [])) → Q .normal { a with defers := { target := .collected D, args := #[] } :: a.defers } W)
    (hstop : ∀ (D : Nat) (c' : Code) (pre : List (PV c)) (W : World), w1.heap.size ≤ D → (∃ k, k ≤ c.lits.length ∧ pvs pre = (c.lits.zip c.coefs).take k) → Ix c' pre W → W.heap[D]? = some (.deferred (some [])) → c'.wpIn Fence.wide n Tryz.prog Q { a with defers := { target := .collected D, args := #[] } :: a.defers } W) :
    (Code.rangeFunc g ps assign body).wpIn Fence.wide n Tryz.prog Q a w1 :=
  wpIn_rangeFunc_ownF rfl (by omega) (gf := 114) (lb := #[.pointer (some ⟨cb, 0, none⟩)]) hg trivial (enters_of Tryz.func114 (by kernel_rfl) rfl)
    (parts_stops c wi w1 vl vk hL hK hlen S cb hst hS hne (n - 1) (by omega)) (fun h k => h.trans k) (fun W l o o' hl h hc hw => lim_b W l o o' hl h hc hw) (Below.refl _ _) (fun _ => by rw [hps]; rfl)
    I Ix hI hIx h0 a₁ hassign hbody hdone hstop


/-! ### value -/
end Go.Proofs.YtfhpfbakoiekpaaGreatDoor

/- A region that draws its order, in the body of a range over a function: one walk serves every order. -/
namespace Go.Proofs.YtfhpfbakoiekpaaGreatDoor
open Go.RowKit

/-- No operation defers a call. -/
def noDefer (o : Oper) : Bool := match o.op with
  | .defer _ => false
  | _ => true

theorem noDefer_ne {o : Oper} (h : noDefer o = true) : ∀ c, o.op ≠ .defer c := by
  intro c e
  simp [noDefer, e] at h

section
variable {F : Fence} {n : Nat} {P : Program} {ops : Array Oper} {Q : Exit → Act → World → Prop}

theorem upon_inRound (r : Nat) {o : Oper} {a : Act} {next : Act → World → Prop} {x : Result Next} (h : o.uponIn F n P a next Q x) : o.uponIn (F.inRound r) n P a next Q x := by
  unfold Oper.uponIn at *
  split at h
  all_goals first | exact h | exact h.elim

theorem oper_inRound (r : Nat) (_hro : F.round = none) {o : Oper} (hd : noDefer o = true) {a : Act} {w : World} {next : Act → World → Prop} (h : o.wpIn F n P a w next Q) : o.wpIn (F.inRound r) n P a w next Q := by
  unfold Oper.wpIn at *
  refine ⟨h.1, ?_⟩
  have h2 := h.2
  rw [Oper.semAt_eq _ _ _ (noDefer_ne hd)] at h2
  rw [Oper.semAt_eq _ _ _ (noDefer_ne hd)]
  exact upon_inRound r h2

theorem ops_inRound (r : Nat) (hro : F.round = none) (hd : ops.all noDefer = true) : ∀ (l : List Nat) (a : Act) (w : World), wpOpsIn F n P ops Q l a w → wpOpsIn (F.inRound r) n P ops Q l a w
  | [], _, _, h => h
  | i :: rest, a, w, h => by
    simp only [wpOpsIn] at *
    cases ho : ops[i]? with
    | none =>
      simp only [ho] at h
      exact ops_inRound r hro hd rest a w h
    | some o =>
      simp only [ho] at h ⊢
      have hdo : noDefer o = true := by
        obtain ⟨hi, rfl⟩ := Array.getElem?_eq_some_iff.1 ho
        exact (Array.all_eq_true.1 hd) i hi
      split at h
      · rename_i hw
        rw [if_pos hw]
        exact oper_inRound r hro hdo (Oper.wpIn_mono (fun a w h => ops_inRound r hro hd rest a w h) h)
      · rename_i hw
        rw [if_neg hw]
        exact ⟨h.1, ops_inRound r hro hd rest _ _ h.2⟩

theorem quiet_wide {C : World → Prop} {K : Act → Prop} : ∀ (l : List Oper) (a : Act), wpQuiet P ops C K l a → wpQuietIn Fence.wide n P ops C K l a
  | [], _, h => h
  | o :: rest, a, h => by
    refine ⟨fun _ _ _ _ => trivial, ?_⟩
    simp only [wpQuiet] at h
    split
    · rename_i hw
      rw [if_pos hw] at h
      obtain ⟨v, h1, h2⟩ := h
      refine ⟨v, fun w hC => ?_, quiet_wide rest _ h2⟩
      have h3 := h1 w hC
      unfold Oper.quietAt at h3
      unfold Oper.quietAtIn
      cases hx : (execOp a.eval o).run P w with
      | halt s w' => rw [hx] at h3; exact h3.elim
      | ok x w' =>
        rw [hx] at h3
        cases x with
        | value u => exact h3
        | skip => exact h3
        | enter f args => exact ⟨h3.1, (fun e => by cases e), callsIn_wide.2 h3.2⟩
        | _ => exact h3.elim
    · rename_i hw
      rw [if_neg hw] at h
      exact quiet_wide rest _ h
end

theorem wp_region_extR {P : Program} {id n r : Nat} {Q : Exit → Act → World → Prop} {a : Act} {w : World} {l : List Oper} (hm : P.follows .mixedOrders = true) (hB : Region.lexB .any l.toArray = true) (hd : l.toArray.all noDefer = true)
    (h : wpQuiet P l.toArray (fun w' => ∃ e : Ext w, w' = e.world) (fun a' => ∀ w', (∃ e : Ext w, w' = e.world) → Q .normal a' w') l a) : (Code.region id l.toArray true).wpIn (Fence.wide.inRound r) n P Q a w := by
  refine wpIn_region_draw fun t => ops_inRound r rfl hd _ _ _ ?_
  simp only [Region.lexB, Bool.and_eq_true] at hB
  simp only [Region.schedule, hm, Bool.true_or, if_true]
  refine wpAnyIn_sound _ t _ a _ (wpAnyIn_of_quiet (F := Fence.wide) (n := n) (C := fun w' => ∃ e : Ext w, w' = e.world) (Q := fun a' => ∀ w', (∃ e : Ext w, w' = e.world) → Q .normal a' w') rfl (fun _ w' hw' h => h w' hw') _ _ _ _ ⟨⟨_, (Below.refl _ w).drew⟩, rfl⟩ ?_)
  have := wpAnyQIn_lex (F := Fence.wide) (n := n) (C := fun w' => ∃ e : Ext w, w' = e.world) (md := .any) hB.1 l.toArray.toList 0 (Array.replicate l.toArray.size false) a (by simp) (by simpa using hB.2) (by simpa using quiet_wide (n := n) _ _ h)
  simpa using this

end Go.Proofs.YtfhpfbakoiekpaaGreatDoor

/- pb.Valid: its contract. -/
namespace Go.Proofs.YtfhpfbakoiekpaaGreatDoor
open Go.RowKit Go.Shelf
attribute [local go_sem] Oper.semAt_some


/-- Where Valid's loop is. -/
structure VSt (c : PBC) (H : Nat) (w : World) (vl vk : Value) (pre : List (PV c)) (W : World) : Prop where
  ok : okF c.bound 0 (pvs pre) = true
  box : Blk W H [vl, vk, .int .i64 c.bound] 30
  res : Blk W (H + 1) [.bool false] 4
  last : Blk W (H + 1 + 1) [.int .i64 (lastF 0 (pvs pre))] 3
  sum : Blk W (H + 1 + 1 + 1) [.int .i64 (sumP (pvs pre))] 3

/-- Behind w nothing is turned, and what w1 has is there. -/
structure Up (w w1 W : World) : Prop where
  below : Below w.heap.size w W
  size : w1.heap.size ≤ W.heap.size

theorem Up.on {w w1 W W' : World} (h : Up w w1 W) (hb : Below W.heap.size W W') : Up w w1 W' := ⟨bon h.below hb, Nat.le_trans h.size hb.size⟩
theorem Up.set {w w1 W : World} (h : Up w w1 W) (b o : Nat) (v : Value) (hb : w.heap.size ≤ b) : Up w w1 (W.setCell ⟨b, o, none⟩ v) := ⟨h.below.setCell (p := ⟨b, o, none⟩) hb v, by rw [size_set]; exact h.size⟩
theorem Up.own {β : Type} {w w1 : World} {B : Nat} (hB : w.heap.size ≤ B) : OwnFrom B (fun (_ : β) W => Up w w1 W) := fun s X Y row hs hg hr =>
  ⟨ownFrom_below (Nat.le_refl _) hB s X Y row hs.below hg hr, Nat.le_trans hs.size hg.size⟩

theorem VSt.own {c : PBC} {H B : Nat} {w : World} {vl vk : Value} : OwnFrom B (fun pre W => VSt c H w vl vk pre W) := fun pre X Y row hs hg hrow => by
  have hr : ∀ r, row = some r → ∃ o : Obj, X.heap[r]? = some o ∧ o.isCells = false := fun r e => (hrow r e).2
  exact ⟨hs.ok, blk_ownP _ _ _ () X Y row hs.box hg hr, blk_ownP _ _ _ () X Y row hs.res hg hr, blk_ownP _ _ _ () X Y row hs.last hg hr, blk_ownP _ _ _ () X Y row hs.sum hg hr⟩

theorem pbV_of {c : PBC} (h1 : c.lits.length = c.coefs.length) (h2 : 0 ≤ c.bound ∧ c.bound ≤ 16777216) : pbV c = (okF c.bound 0 (c.lits.zip c.coefs) && (decide (c.bound ≤ sumP (c.lits.zip c.coefs)) || (decide (c.lits.length = 0) && decide (c.bound = 1)))) := by
  unfold pbV; rw [decide_eq_true h1, decide_eq_true h2]; rfl

theorem okF_small {bd : Int} {l : List (Int × Int)} (h : okF bd 0 l = true) (hb : bd ≤ 16777216) : 0 ≤ lastF 0 l ∧ lastF 0 l ≤ 65536 ∧ 0 ≤ sumP l ∧ sumP l ≤ 1099511627776 := by
  obtain ⟨h1, h2, h3, h4⟩ := okF_bound l 0 (Int.le_refl _) h
  by_cases e : l = []
  · subst e; simp [lastF, sumP]
  · have h5 := h4 e
    have h6 : (l.length : Int) ≤ 65536 := by omega
    have h7 : bd * (l.length : Int) ≤ 16777216 * 65536 := by
      refine Int.le_trans (Int.mul_le_mul_of_nonneg_right hb (by omega)) ?_
      exact Int.mul_le_mul_of_nonneg_left h6 (by omega)
    omega

theorem fit_mem {l : List Int} (h : Fits l) {x : Int} (hx : x ∈ l) : -9223372036854775808 ≤ x ∧ x ≤ 9223372036854775807 := by
  obtain ⟨j, hj, rfl⟩ := mem_ix_iff.1 hx
  exact h j

theorem pliteral_lit (l : Int) (b : Bool) (h : plitB l = b) (w : World) : Calls Tryz.prog 102 #[.int .i64 l] w fun e w' => e = .returned (.bool b) ∧ w = w' := h ▸ pliteral_any l w

theorem keepsO_below {W W' : World} (h : Below W.heap.size W W') : KeepsOthers W W' := ⟨h.size, fun k _ hk _ => (h.block k (Array.getElem?_eq_some_iff.1 hk).1).trans hk⟩


set_option maxHeartbeats 4000000 in
set_option maxRecDepth 100000 in
theorem pbValid_any (v : Value) (c : PBC) (w : World) (h : PBIs w v c) :
    Calls Tryz.prog 43 #[v] w fun e w' => e = .returned (.bool (pbV c)) ∧ Below w.heap.size w w' := by
  obtain ⟨vl, vk, rfl, hL, hK, hbd⟩ := h
  obtain ⟨a1, c1, rfl, -, hl1, -, -⟩ := hL.form
  obtain ⟨a2, c2, rfl, -, hl2, -, -⟩ := hK.form
  have HL := Lib.hid hL
  have HK := Lib.hid hK
  unfold InI at hbd
  clear hL hK
  by_cases h1 : c.lits.length = c.coefs.length
  · have HLN := Lib.hid h1
    rw [← h1] at HK hl2 ⊢
    clear h1
    by_cases h2 : c.bound < 0
    · have HF : Hid (pbV c = false) := Lib.hid (by unfold pbV; rw [decide_eq_false (show ¬ (0 ≤ c.bound ∧ c.bound ≤ 16777216) by omega)]; simp)
      go_enter Tryz.func43, Tryz.ntmps43
      go_wp2
      exact bodyPost_ret (v := .bool false) (by simp [results, Tryz.f43, go_sem]) rfl ⟨ret_bool HF.out.symm, by (repeat first | exact Below.refl _ _ | (refine Below.setCell ?_ (by first | omega | (simp; done) | (simp; omega)) _) | (refine bal ?_ _))⟩
    · by_cases h3 : 16777216 < c.bound
      · have HF : Hid (pbV c = false) := Lib.hid (by unfold pbV; rw [decide_eq_false (show ¬ (0 ≤ c.bound ∧ c.bound ≤ 16777216) by omega)]; simp)
        go_enter Tryz.func43, Tryz.ntmps43
        go_wp2
        exact bodyPost_ret (v := .bool false) (by simp [results, Tryz.f43, go_sem]) rfl ⟨ret_bool HF.out.symm, by (repeat first | exact Below.refl _ _ | (refine Below.setCell ?_ (by first | omega | (simp; done) | (simp; omega)) _) | (refine bal ?_ _))⟩
      · have HPV := Lib.hid (pbV_of HLN.out (show 0 ≤ c.bound ∧ c.bound ≤ 16777216 by omega))
        refine (callsIn_wide (n := 6)).1 ?_
        refine callsIn_of_wp_marks Tryz.func43 rfl trivial ?_ rfl
        simp only [Tryz.ntmps43, List.size_toArray, List.length_cons, List.length_nil, Nat.reduceAdd, Nat.reduceSub, Array.replicate_succ, Array.replicate_zero, List.push_toArray, List.append_toArray, List.nil_append, List.cons_append]
        gi_wp2_with (refine ⟨trivial, ?_⟩; gi_at_call 71; refine (callsIn_wide.2 (parts_any _ _ _ _ ⟨_, _, _, rfl⟩ ⟨_, _, _, rfl⟩)).mono ?_; rintro e w1 ⟨rfl, hb1, hp1⟩)
        have b0 := Blk.below (b := w.heap.size) (c := [.slice a1 c.lits.length c1, .slice a2 c.lits.length c2, .int .i64 c.bound]) (t := 30) (by repeat first | (refine Blk.newAt _ _ _ ?_; first | rfl | (simp only [World.size_alloc]; done) | (simp only [World.size_alloc]; omega)) | refine Blk.alloc ?_ _) hb1
        have b1 := Blk.below (b := w.heap.size + 1) (c := [.bool false]) (t := 4) (by repeat first | (refine Blk.newAt _ _ _ ?_; first | rfl | (simp only [World.size_alloc]; done) | (simp only [World.size_alloc]; omega)) | refine Blk.alloc ?_ _) hb1
        have b2 := Blk.below (b := w.heap.size + 1 + 1) (c := [.int .i64 0]) (t := 3) (by repeat first | (refine Blk.newAt _ _ _ ?_; first | rfl | (simp only [World.size_alloc]; done) | (simp only [World.size_alloc]; omega)) | refine Blk.alloc ?_ _) hb1
        have b3 := Blk.below (b := w.heap.size + 1 + 1 + 1) (c := [.int .i64 0]) (t := 3) (by repeat first | (refine Blk.newAt _ _ _ ?_; first | rfl | (simp only [World.size_alloc]; done) | (simp only [World.size_alloc]; omega)) | refine Blk.alloc ?_ _) hb1
        have hbw : Below w.heap.size w w1 := by
          refine Below.trans ?_ (hb1.mono (by simp; omega))
          (repeat first | exact Below.refl _ _ | (refine Below.setCell ?_ (by first | omega | (simp; done) | (simp; omega)) _) | (refine bal ?_ _))
        simp only [World.size_alloc] at hp1 hb1
        have hz := hp1.lt
        have hst : PartSt w w1 [w.heap.size + 1 + 1, w.heap.size + 1 + 1 + 1] (w.heap.size + 1 + 1 + 1 + 1) (.slice a1 c.lits.length c1) (.slice a2 c.lits.length c2) c.bound := ⟨fun i hi => hbw.block i hi, hbw.size, hp1⟩
        clear hb1 hp1
        refine parts_loop HL.out HK.out HLN.out hst (fun s hs => by simp only [List.mem_cons, List.not_mem_nil, or_false] at hs; omega) (by simp; omega) (by omega) rfl rfl
          (fun pre W => VSt c w.heap.size w (.slice a1 c.lits.length c1) (.slice a2 c.lits.length c2) pre W ∧ Up w w1 W)
          (fun e pre W => (Blk W (w.heap.size + 1) [.bool false] 4 ∧ (e = .ret ∧ okF c.bound 0 (pvs pre) = false)) ∧ Up w w1 W)
          (OwnFrom.and VSt.own (Up.own hbw.size))
          (fun e => OwnFrom.and (OwnFrom.and (Own.from (blk_ownP _ _ _) _) (ownFrom_pure _ _)) (Up.own hbw.size))
          ⟨⟨rfl, b0, b1, b2, b3⟩, hbw, Nat.le_refl _⟩
          ?a1 ?assign ?body ?done ?stop
        case assign =>
          intro l x W K hK
          gi_wp2
          exact hK
        case body =>
          rintro l pre x W ⟨hv, hB⟩ hlt
          have HV := Lib.hid hv
          have HB := Lib.hid hB
          obtain ⟨hok, k0, k1, k2, k3⟩ := hv
          obtain ⟨⟨x1, x2⟩, hx⟩ := x
          dsimp only
          have hx1 := fit_mem HL.out.2 (List.of_mem_zip hx).1
          have hx2 := fit_mem HK.out.2 (List.of_mem_zip hx).2
          have hsm := okF_small hok (by omega)
          have HX : Hid (okF c.bound 0 (pvs (pre ++ [⟨(x1, x2), hx⟩])) = chkB c.bound (lastF 0 (pvs pre)) (x1, x2)) := Lib.hid (by rw [pvs_snoc, okF_snoc, hok, Bool.true_and])
          have HS1 : Hid (lastF 0 (pvs (pre ++ [⟨(x1, x2), hx⟩])) = (x1.natAbs : Int)) := Lib.hid (by rw [pvs_snoc, lastF_snoc])
          have HS2 : Hid (sumP (pvs (pre ++ [⟨(x1, x2), hx⟩])) = sumP (pvs pre) + x2) := Lib.hid (by rw [pvs_snoc, sumP_snoc])
          have HQ0 := Lib.hid k0
          have HQ1 := Lib.hid k1
          have HQ2 := Lib.hid k2
          have HQ3 := Lib.hid k3
          have ex0 := fun (e : Ext W) (o : Nat) => (bcell e.below _ o k0.lt).trans (k0.cell o)
          have ex2 := fun (e : Ext W) => (bcell e.below _ 0 k2.lt).trans (k2.cell 0)
          clear hok k0 k1 k2 k3 hB hst b0 b1 b2 b3
          generalize lastF 0 (pvs pre) = L9 at *
          generalize sumP (pvs pre) = S9 at *
          have HCK : Hid (chkB c.bound L9 (x1, x2) = (plitB x1 && decide (L9 < (x1.natAbs : Int)) && decide (1 ≤ x2) && decide (x2 ≤ c.bound))) := Lib.hid rfl
          cases hlb : plitB x1 with
          | false =>
            have HLB := Lib.hid hlb
            have HCF : Hid (chkB c.bound L9 (x1, x2) = false) := Lib.hid (by rw [HCK.out, hlb]; rfl)
            clear hlb
            gi_wp2
            refine wp_region_extR (by kernel_rfl) (by kernel_rfl) (by kernel_rfl) ?_
            repeat (go_big_quiet_step ((first | (go_at_call 102; exact Calls.ext_of_same (pliteral_lit _ _ HLB.out _)) | (go_at_call 74; exact Calls.ext_of_same (abs_any _ HAB.out _)))))
            refine wpQuiet_nil ?_
            intro w9 hw'
            obtain ⟨e9, he9⟩ := hw'
            have hb9 := e9.below
            rw [← he9] at hb9
            clear he9 e9
            try dsimp only
            have HB9 := Lib.hid hb9
            have u1 := (HQ1.out.below hb9).cell 0
            have v1 := (HQ1.out.below hb9).free 0
            clear hb9
            gi_wp2
            exact ⟨(keepsO_below HB9.out).trans (KeepsOthers.setCell _ _ _), ⟨(HQ1.out.below HB9.out).set 0 _, rfl, by rw [HX.out, HCF.out]⟩, (HB.out.on HB9.out).set _ _ _ (by omega)⟩
          | true =>
            have HLB := Lib.hid hlb
            have hab : -65536 ≤ x1 ∧ x1 ≤ 65536 := by unfold plitB at hlb; rw [decide_eq_true_eq] at hlb; exact hlb.2
            have HAB : Hid (-4611686018427387904 ≤ x1 ∧ x1 ≤ 4611686018427387904) := Lib.hid (by omega)
            rw [hlb, Bool.true_and] at HCK
            clear hlb
            by_cases g1 : (x1.natAbs : Int) ≤ L9
            · have HCF : Hid (chkB c.bound L9 (x1, x2) = false) := Lib.hid (by rw [HCK.out, decide_eq_false (by omega)]; rfl)
              have d1 : decide ((x1.natAbs : Int) ≤ L9) = true := decide_eq_true g1
              gi_wp2
              refine wp_region_extR (by kernel_rfl) (by kernel_rfl) (by kernel_rfl) ?_
              repeat (go_big_quiet_step ((first | (go_at_call 102; exact Calls.ext_of_same (pliteral_lit _ _ HLB.out _)) | (go_at_call 74; exact Calls.ext_of_same (abs_any _ HAB.out _)))))
              refine wpQuiet_nil ?_
              intro w9 hw'
              obtain ⟨e9, he9⟩ := hw'
              have hb9 := e9.below
              rw [← he9] at hb9
              clear he9 e9
              try dsimp only
              have HB9 := Lib.hid hb9
              have u1 := (HQ1.out.below hb9).cell 0
              have v1 := (HQ1.out.below hb9).free 0
              clear hb9
              gi_wp2
              exact ⟨(keepsO_below HB9.out).trans (KeepsOthers.setCell _ _ _), ⟨(HQ1.out.below HB9.out).set 0 _, rfl, by rw [HX.out, HCF.out]⟩, (HB.out.on HB9.out).set _ _ _ (by omega)⟩
            · have d1 : decide ((x1.natAbs : Int) ≤ L9) = false := decide_eq_false g1
              by_cases g2 : x2 < 1
              · have HCF : Hid (chkB c.bound L9 (x1, x2) = false) := Lib.hid (by rw [HCK.out, decide_eq_false (show ¬ 1 ≤ x2 by omega)]; simp)
                have d2 : decide (x2 < 1) = true := decide_eq_true g2
                gi_wp2
                refine wp_region_extR (by kernel_rfl) (by kernel_rfl) (by kernel_rfl) ?_
                repeat (go_big_quiet_step ((first | (go_at_call 102; exact Calls.ext_of_same (pliteral_lit _ _ HLB.out _)) | (go_at_call 74; exact Calls.ext_of_same (abs_any _ HAB.out _)))))
                refine wpQuiet_nil ?_
                intro w9 hw'
                obtain ⟨e9, he9⟩ := hw'
                have hb9 := e9.below
                rw [← he9] at hb9
                clear he9 e9
                try dsimp only
                have HB9 := Lib.hid hb9
                have u1 := (HQ1.out.below hb9).cell 0
                have v1 := (HQ1.out.below hb9).free 0
                clear hb9
                gi_wp2
                exact ⟨(keepsO_below HB9.out).trans (KeepsOthers.setCell _ _ _), ⟨(HQ1.out.below HB9.out).set 0 _, rfl, by rw [HX.out, HCF.out]⟩, (HB.out.on HB9.out).set _ _ _ (by omega)⟩
              · have d2 : decide (x2 < 1) = false := decide_eq_false g2
                by_cases g3 : c.bound < x2
                · have HCF : Hid (chkB c.bound L9 (x1, x2) = false) := Lib.hid (by rw [HCK.out, decide_eq_false (show ¬ x2 ≤ c.bound by omega)]; simp)
                  have d3 : decide (c.bound < x2) = true := decide_eq_true g3
                  gi_wp2
                  refine wp_region_extR (by kernel_rfl) (by kernel_rfl) (by kernel_rfl) ?_
                  repeat (go_big_quiet_step ((first | (go_at_call 102; exact Calls.ext_of_same (pliteral_lit _ _ HLB.out _)) | (go_at_call 74; exact Calls.ext_of_same (abs_any _ HAB.out _)))))
                  refine wpQuiet_nil ?_
                  intro w9 hw'
                  obtain ⟨e9, he9⟩ := hw'
                  have hb9 := e9.below
                  rw [← he9] at hb9
                  clear he9 e9
                  try dsimp only
                  have HB9 := Lib.hid hb9
                  have u1 := (HQ1.out.below hb9).cell 0
                  have v1 := (HQ1.out.below hb9).free 0
                  clear hb9
                  gi_wp2
                  exact ⟨(keepsO_below HB9.out).trans (KeepsOthers.setCell _ _ _), ⟨(HQ1.out.below HB9.out).set 0 _, rfl, by rw [HX.out, HCF.out]⟩, (HB.out.on HB9.out).set _ _ _ (by omega)⟩
                · have d3 : decide (c.bound < x2) = false := decide_eq_false g3
                  have HCT : Hid (chkB c.bound L9 (x1, x2) = true) := Lib.hid (by rw [HCK.out, decide_eq_true (show L9 < (x1.natAbs : Int) by omega), decide_eq_true (show 1 ≤ x2 by omega), decide_eq_true (show x2 ≤ c.bound by omega)]; rfl)
                  gi_wp2
                  refine wp_region_extR (by kernel_rfl) (by kernel_rfl) (by kernel_rfl) ?_
                  repeat (go_big_quiet_step ((first | (go_at_call 102; exact Calls.ext_of_same (pliteral_lit _ _ HLB.out _)) | (go_at_call 74; exact Calls.ext_of_same (abs_any _ HAB.out _)))))
                  refine wpQuiet_nil ?_
                  intro w9 hw'
                  obtain ⟨e9, he9⟩ := hw'
                  have hb9 := e9.below
                  rw [← he9] at hb9
                  clear he9 e9
                  try dsimp only
                  have HB9 := Lib.hid hb9
                  have u2 := (HQ2.out.below hb9).cell 0
                  have u3 := (HQ3.out.below hb9).cell 0
                  have v2 := (HQ2.out.below hb9).free 0
                  have v3 := (HQ3.out.below hb9).free 0
                  have hs9 := hb9.size
                  have hsW := HB.out.below.size
                  have hsV := HB.out.size
                  clear hb9
                  gi_wp2_with (refine ⟨trivial, ?_⟩; gi_at_call 74; refine (CallsIn.inRound l (callsIn_wide.2 (abs_any _ HAB.out _))).mono ?_; rintro e w2 ⟨rfl, rfl⟩)
                  have hB9 := HB9.out
                  refine ⟨((keepsO_below hB9).trans (KeepsOthers.setCell _ _ _)).trans (KeepsOthers.setCell _ _ _), ((Lim.of_below hB9 (by omega)).trans (Lim.setCell _ (.inl (by simp)))).trans (Lim.setCell _ (.inl (by simp))), ⟨by rw [HX.out, HCT.out], ?_, ?_, ?_, ?_⟩, ?_⟩
                  · exact ((HQ0.out.below hB9).setOther _ _ (by omega)).setOther _ _ (by omega)
                  · exact ((HQ1.out.below hB9).setOther _ _ (by omega)).setOther _ _ (by omega)
                  · rw [HS1.out]
                    exact ((HQ2.out.below hB9).set 0 _).setOther _ _ (by omega)
                  · rw [HS2.out]
                    exact ((HQ3.out.below hB9).setOther _ _ (by omega)).set 0 _
                  · exact ((HB.out.on hB9).set _ _ _ (by omega)).set _ _ _ (by omega)
        case done =>
          rintro D xs W hD hS ⟨⟨hok, k0, k1, k2, k3⟩, hB⟩ hK
          have q0 := k0.cell
          have q1 := k1.cell 0
          have v1 := k1.free 0
          have q3 := k3.cell 0
          have HB := Lib.hid hB
          have HK1 := Lib.hid k1
          have hsm := okF_small hok (by omega)
          have HOK := Lib.hid hok
          have HS := Lib.hid hS
          have hfin : Hid (∀ b : Bool, (decide (c.bound ≤ sumP (pvs xs)) || (decide (c.lits.length = 0) && decide (c.bound = 1))) = b → pbV c = b) := Lib.hid (fun b h => by rw [HPV.out, ← HS.out, HOK.out, Bool.true_and]; exact h)
          have HD := Lib.hid hK
          have hDs := hbw.size
          clear hS hok k0 k1 k2 k3 hB hst b0 b1 b2 b3 hK
          generalize hS9 : sumP (pvs xs) = S9 at *
          clear hS9
          by_cases g1 : c.bound ≤ S9
          · have HF : Hid (pbV c = true) := Lib.hid (hfin.out true (by rw [decide_eq_true g1]; rfl))
            clear hfin
            gi_wp2
            have hK' := (KeepsOthers.setCell W ⟨w.heap.size + 1, 0, none⟩ (.bool true)).same D _ HD.out rfl
            refine ⟨by simp, .inl ⟨_, _, rfl, run_takeDeferred hK', ?_⟩⟩
            have hc5 := cell_kept (World.cell?_setCell_same' W ⟨w.heap.size + 1, 0, none⟩ (.bool true) (by rw [q1]; rfl)) (grownBy_putObj' _ D (.deferred none)) (fun r e => by cases e; exact ⟨_, hK', rfl⟩)
            refine ⟨.bool true, ?_, by rw [HF.out], (HB.out.below.setCell (p := ⟨w.heap.size + 1, 0, none⟩) (by simp) _).trans (belowK_b (w := w) (Nat.le_refl _) _ D _ _ (by omega) hK' rfl rfl)⟩
            simp [results, Tryz.f43, go_sem, hc5]
          · by_cases g2 : c.lits.length = 0
            · by_cases g3 : c.bound = 1
              · have HF : Hid (pbV c = true) := Lib.hid (hfin.out true (by rw [decide_eq_true g2, decide_eq_true g3]; simp))
                have d2 : ((c.lits.length : Int) == 0) = true := beq_iff_eq.2 (by omega)
                have d3 : (c.bound == 1) = true := by simp [g3]
                clear hfin g2 g3
                gi_wp2
                have hK' := (KeepsOthers.setCell W ⟨w.heap.size + 1, 0, none⟩ (.bool true)).same D _ HD.out rfl
                refine ⟨by simp, .inl ⟨_, _, rfl, run_takeDeferred hK', ?_⟩⟩
                have hc5 := cell_kept (World.cell?_setCell_same' W ⟨w.heap.size + 1, 0, none⟩ (.bool true) (by rw [q1]; rfl)) (grownBy_putObj' _ D (.deferred none)) (fun r e => by cases e; exact ⟨_, hK', rfl⟩)
                refine ⟨.bool true, ?_, by rw [HF.out], (HB.out.below.setCell (p := ⟨w.heap.size + 1, 0, none⟩) (by simp) _).trans (belowK_b (w := w) (Nat.le_refl _) _ D _ _ (by omega) hK' rfl rfl)⟩
                simp [results, Tryz.f43, go_sem, hc5]
              · have HF : Hid (pbV c = false) := Lib.hid (hfin.out false (by rw [decide_eq_false g1, decide_eq_false g3]; simp))
                have d2 : ((c.lits.length : Int) == 0) = true := beq_iff_eq.2 (by omega)
                have d3 : (c.bound == 1) = false := by simp [g3]
                clear hfin g2 g3
                gi_wp2
                have hK' := (KeepsOthers.setCell W ⟨w.heap.size + 1, 0, none⟩ (.bool false)).same D _ HD.out rfl
                refine ⟨by simp, .inl ⟨_, _, rfl, run_takeDeferred hK', ?_⟩⟩
                have hc5 := cell_kept (World.cell?_setCell_same' W ⟨w.heap.size + 1, 0, none⟩ (.bool false) (by rw [q1]; rfl)) (grownBy_putObj' _ D (.deferred none)) (fun r e => by cases e; exact ⟨_, hK', rfl⟩)
                refine ⟨.bool false, ?_, by rw [HF.out], (HB.out.below.setCell (p := ⟨w.heap.size + 1, 0, none⟩) (by simp) _).trans (belowK_b (w := w) (Nat.le_refl _) _ D _ _ (by omega) hK' rfl rfl)⟩
                simp [results, Tryz.f43, go_sem, hc5]
            · have HF : Hid (pbV c = false) := Lib.hid (hfin.out false (by rw [decide_eq_false g1, decide_eq_false g2]; simp))
              have d2 : ((c.lits.length : Int) == 0) = false := beq_eq_false_iff_ne.2 (by omega)
              clear hfin g2
              gi_wp2
              have hK' := (KeepsOthers.setCell W ⟨w.heap.size + 1, 0, none⟩ (.bool false)).same D _ HD.out rfl
              refine ⟨by simp, .inl ⟨_, _, rfl, run_takeDeferred hK', ?_⟩⟩
              have hc5 := cell_kept (World.cell?_setCell_same' W ⟨w.heap.size + 1, 0, none⟩ (.bool false) (by rw [q1]; rfl)) (grownBy_putObj' _ D (.deferred none)) (fun r e => by cases e; exact ⟨_, hK', rfl⟩)
              refine ⟨.bool false, ?_, by rw [HF.out], (HB.out.below.setCell (p := ⟨w.heap.size + 1, 0, none⟩) (by simp) _).trans (belowK_b (w := w) (Nat.le_refl _) _ D _ _ (by omega) hK' rfl rfl)⟩
              simp [results, Tryz.f43, go_sem, hc5]
        case stop =>
          rintro D e pre W hD ⟨k, hk, hS⟩ ⟨⟨bRW, rfl, hok⟩, hB⟩ hK
          have HF : Hid (pbV c = false) := Lib.hid (by
            rw [HPV.out, ← List.take_append_drop k (c.lits.zip c.coefs), ← hS, okF_false _ _ _ hok]; rfl)
          gi_wp2
          refine ⟨by simp, .inl ⟨_, _, rfl, run_takeDeferred hK, ?_⟩⟩
          have hc5 := cell_kept (bRW.cell 0) (grownBy_putObj' _ D (.deferred none)) (fun r e => by cases e; exact ⟨_, hK, rfl⟩)
          have hDs := hbw.size
          refine ⟨.bool false, ?_, by rw [HF.out], hB.below.trans (belowK_b (w := w) (Nat.le_refl _) W D _ _ (by omega) hK rfl rfl)⟩
          simp [results, Tryz.f43, go_sem, hc5]
  · have HF : Hid (pbV c = false) := Lib.hid (by unfold pbV; rw [decide_eq_false h1]; rfl)
    have h1' : ((c.lits.length : Int) != c.coefs.length) = true := by simp; omega
    clear h1
    go_enter Tryz.func43, Tryz.ntmps43
    go_wp2
    exact bodyPost_ret (v := .bool false) (by simp [results, Tryz.f43, go_sem]) rfl ⟨ret_bool HF.out.symm, by (repeat first | exact Below.refl _ _ | (refine Below.setCell ?_ (by first | omega | (simp; done) | (simp; omega)) _) | (refine bal ?_ _))⟩

end Go.Proofs.YtfhpfbakoiekpaaGreatDoor

/- pb.String, at small numbers. -/
namespace Go.Proofs.YtfhpfbakoiekpaaGreatDoor
open Go.RowKit Go.Shelf
attribute [local go_sem] Oper.semAt_some

/-- The text of a literal with its coefficient. -/
def itemT (q : Int × Int) : List UInt8 := (Lib.decDigits q.2.toNat ++ [32]) ++ ((if q.1 < 0 then [126] else []) ++ (([120] ++ Lib.decDigits q.1.natAbs) ++ [32]))
def headT (l : List (Int × Int)) : List UInt8 := l.flatMap itemT
def strT (c : PBC) : List UInt8 := headT (c.lits.zip c.coefs) ++ ([62, 61, 32] ++ Lib.decDigits c.bound.toNat)
theorem headT_snoc (l : List (Int × Int)) (q : Int × Int) : headT (l ++ [q]) = headT l ++ itemT q := by simp [headT]

theorem dec_len {n : Nat} (h : n < 100) : (Lib.decDigits n).length ≤ 2 := by
  unfold Lib.decDigits
  split
  · simp
  · have : n / 10 < 10 := by omega
    unfold Lib.decDigits
    rw [dif_pos this]
    simp

theorem itemT_len {q : Int × Int} (h1 : q.1.natAbs < 100) (h2 : 0 ≤ q.2 ∧ q.2 < 100) : (itemT q).length ≤ 8 := by
  have a := dec_len (n := q.2.toNat) (by omega)
  have b := dec_len h1
  unfold itemT
  simp only [List.length_append, List.length_cons, List.length_nil]
  split <;> simp <;> omega

theorem headT_len : ∀ {l : List (Int × Int)}, (∀ q ∈ l, q.1.natAbs < 100 ∧ 0 ≤ q.2 ∧ q.2 < 100) → (headT l).length ≤ 8 * l.length
  | [], _ => by simp [headT]
  | q :: l, h => by
    have a := itemT_len (h q (.head _)).1 (h q (.head _)).2
    have b := headT_len (l := l) (fun x hx => h x (.tail _ hx))
    unfold headT at *
    simp only [List.flatMap_cons, List.length_append, List.length_cons]
    omega

/-- The cells of a text. -/
abbrev bc (l : List UInt8) : List Value := Lib.byteCells l
theorem bc_app (a b : List UInt8) : bc (a ++ b) = bc a ++ bc b := by simp [bc, Lib.byteCells]
theorem bc_str (s : ByteArray) : Lib.strCells s = bc s.data.toList := rfl

theorem parts_any2 (vl vk : Value) (bd : Int) (w : World) (hl : ∃ a n c, vl = .slice a n c) (hk : ∃ a n c, vk = .slice a n c) :
    Calls Tryz.prog 71 #[.agg #[vl, vk, .int .i64 bd]] w fun e w' => e = .returned (.func (.func 114) #[] #[.pointer (some ⟨w.heap.size, 0, none⟩)]) ∧ Below w.heap.size w w' ∧ Blk w' w.heap.size [vl, vk, .int .i64 bd] 30 ∧ w'.heap.size = w.heap.size + 1 := by
  obtain ⟨a1, n1, c1, rfl⟩ := hl
  obtain ⟨a2, n2, c2, rfl⟩ := hk
  have HB : Hid (Below w.heap.size w (w.alloc (.cells #[.slice a1 n1 c1, .slice a2 n2 c2, .int .i64 bd] 30))) := Lib.hid (bal (Below.refl _ _) _)
  have HK := Lib.hid (Blk.new w [.slice a1 n1 c1, .slice a2 n2 c2, .int .i64 bd] 30)
  go_enter Tryz.func71, Tryz.ntmps71
  go_wp2
  go_ret
  exact ⟨rfl, HB.out, HK.out, by simp⟩

/-- The builder in block b under way; cb: the iterator's box; n1: the size at the loop's start. -/
structure StSt (b0 b cb n1 : Nat) (pc : List Value) (w : World) (t : List UInt8) (W : World) : Prop where
  bld : IsB b b (bc t) W
  box : Blk W cb pc 30
  box1 : Blk W b0 pc 30
  below : Below b w W
  size : n1 ≤ W.heap.size

theorem IsB.own {b : Nat} {bs : List Value} {X Y : World} {row : Option Nat} (h : IsB b b bs X) (hg : X.grownBy Y row) (hr : ∀ r, row = some r → ∃ o : Obj, X.heap[r]? = some o ∧ o.isCells = false) : IsB b b bs Y := by
  have key : ∀ p, BAt b b p bs X → BAt b b p bs Y := fun p ⟨h1, v, h2, h3, h4⟩ => by
    have hne : ∀ k (o : Obj), X.heap[k]? = some o → o.isCells = true → row ≠ some k := fun k o hk hc e => by
      obtain ⟨o2, ho, hc2⟩ := hr k e
      rw [hk] at ho
      cases ho
      rw [hc] at hc2
      cases hc2
    refine ⟨h1, v, (hg.block b (Array.getElem?_eq_some_iff.1 h2).1 (fun e => hne b _ h2 rfl e.symm)).trans h2, h3.kept hg ?_, h4⟩
    rcases h3.2 with ⟨rfl, _⟩ | ⟨g, cap, cur, fz, rfl, _, hgg, _⟩
    · exact .inl rfl
    · exact .inr (fun e => hne g _ hgg rfl e.symm)
  exact h.elim (fun x => .inl (key _ x)) (fun x => .inr (key _ x))

theorem StSt.own {b0 b cb n1 B : Nat} {pc : List Value} {w : World} (hB : b ≤ B) {c : PBC} : OwnFrom B (fun (pre : List (PV c)) W => StSt b0 b cb n1 pc w (headT (pvs pre)) W) := fun pre X Y row hs hg hrow => by
  have hr : ∀ r, row = some r → ∃ o : Obj, X.heap[r]? = some o ∧ o.isCells = false := fun r e => (hrow r e).2
  refine ⟨hs.bld.own hg hr, blk_ownP _ _ _ () X Y row hs.box hg hr, blk_ownP _ _ _ () X Y row hs.box1 hg hr, ?_, Nat.le_trans hs.size hg.size⟩
  exact hs.below.trans ⟨hg.os, hg.tape, hg.output, hg.size, fun i hi => hg.block i (by have := hs.bld; rcases this with h | h <;> (have := h.lt; omega)) (fun e => by have := (hrow i e.symm).1; omega)⟩

/-- Behind a writing. -/
theorem StSt.write {b0 b cb : Nat} {pc : List Value} {w W W' : World} {t s : List UInt8} (h : StSt b0 b cb (b + 2) pc w t W) (hcb : cb = b + 1) (hb : b0 < b) (h1 : BAt b b (.pointer (some ⟨b, 0, none⟩)) (bc t ++ bc s) W') (h2 : Below b W W') (h3 : Lib.OthersKept 5 (some b) W W') :
    StSt b0 b cb (b + 2) pc w (t ++ s) W' ∧ Lim (b + 2) [b] W W' ∧ KeepsOthers W W' := by
  have kk : ∀ k c t', Blk W k c t' → k ≠ b → t' ≠ 5 → Blk W' k c t' := fun k c t' hk hne ht => h3 k _ hk (fun e => hne (Option.some.inj e)) (fun c fz e => ht (by cases e; rfl))
  refine ⟨⟨.inr (by rw [bc_app]; exact h1), kk _ _ _ h.box (by omega) (by decide), kk _ _ _ h.box1 (by omega) (by decide), h.below.trans h2, Nat.le_trans h.size h2.size⟩, ⟨h2.os, h2.tape, h2.output, h2.size, fun k hk hs => ?_⟩, ⟨h2.size, fun k o hk hc => h3 k o hk ?_ (fun c fz e => by subst e; cases hc)⟩⟩
  · simp only [List.mem_cons, List.not_mem_nil, or_false] at hs
    rcases Nat.lt_or_ge k b with hlt | hge
    · exact h2.block k hlt
    · obtain rfl : k = cb := by omega
      rw [show W'.heap[k]? = _ from kk _ _ _ h.box hs (by decide), show W.heap[k]? = _ from h.box]
  · intro e
    have := Option.some.inj e
    subst this
    rcases h.bld with ⟨_, v, hb2, _⟩ | ⟨_, v, hb2, _⟩ <;> (rw [hb2] at hk; cases hk; cases hc)

theorem cat_list (a b : List UInt8) : ((⟨a.toArray⟩ : ByteArray) ++ ⟨b.toArray⟩).data.toList = a ++ b := by
  rw [ByteArray.data_append]
  simp

theorem cat3_list (a b c : List UInt8) : (((⟨a.toArray⟩ : ByteArray) ++ ⟨b.toArray⟩) ++ ⟨c.toArray⟩).data.toList = (a ++ b) ++ c := by
  rw [ByteArray.data_append, ByteArray.data_append]
  simp

theorem ws_txt {b0 b cb : Nat} {pc : List Value} {w W : World} {t : List UInt8} (h : StSt b0 b cb (b + 2) pc w t W) (hcb : cb = b + 1) (hb : b0 < b) (s : List UInt8) (S : ByteArray) (hS : S.data.toList = s) (hlen : t.length + s.length ≤ 1000000) :
    Calls Tryz.prog 72 #[.pointer (some ⟨b, 0, none⟩), .string S] W fun e W' => e = .returned (.tuple #[.int .i64 S.size, .nilIface]) ∧ StSt b0 b cb (b + 2) pc w (t ++ s) W' ∧ Lim (b + 2) [b] W W' ∧ KeepsOthers W W' := by
  have hsz : S.size = s.length := by rw [← hS, Array.length_toList]; rfl
  refine (ws_any b b (bc t) S W h.bld (by rw [Lib.byteCells_length, hsz]; omega) (by have := h.size; omega)).mono ?_
  rintro e W' ⟨rfl, h1, h2, h3⟩
  rw [bc_str, hS] at h1
  exact ⟨rfl, h.write hcb hb h1 h2 h3⟩

end Go.Proofs.YtfhpfbakoiekpaaGreatDoor

/- ostlerlaw26.awake: the values. -/
namespace Go.Proofs.YtfhpfbakoiekpaaGreatDoor
open Go.RowKit

def twoP : GP := ⟨2, [⟨#[97]⟩, ⟨#[98]⟩], [], [⟨false, [1], false, 0, [-2], []⟩, ⟨false, [2], false, 0, [-1], []⟩], []⟩
def tsumP : GP := ⟨3, [⟨#[97]⟩, ⟨#[98]⟩, ⟨#[99]⟩], [], [⟨false, [3], true, 2, [1, 2], [1, 2]⟩], []⟩

def cq1 : PBC := ⟨[-2, -3], [1, 1], 1⟩
def cq2 : PBC := ⟨[2, 3], [1, 1], 1⟩
def cq3 : PBC := ⟨[1, -3], [1, 1], 1⟩
def cq4 : PBC := ⟨[-1, -4], [1, 1], 1⟩
def cq5 : PBC := ⟨[1, 4], [1, 1], 1⟩
def cq6 : PBC := ⟨[2, -4], [1, 1], 1⟩
def cq7 : PBC := ⟨[-1, 3], [1, 1], 1⟩
def cq8 : PBC := ⟨[-2, 4], [1, 1], 1⟩
def ct1 : PBC := ⟨[1, 2, -4], [1, 2, 2], 2⟩
def ct2 : PBC := ⟨[-1, -2, 4], [1, 2, 2], 2⟩
def ct3 : PBC := ⟨[3, -4], [1, 1], 1⟩

theorem two_valid : validE twoP = 0 := by kernel_rfl
theorem tsum_valid : validE tsumP = 0 := by kernel_rfl
theorem two_comp : compL twoP = [cq1, cq2, cq3, cq4, cq5, cq6, cq7, cq8] := by kernel_rfl
theorem tsum_len : (compL tsumP).length = 6 := by kernel_rfl
theorem tsum_0 : (compL tsumP).getD 0 default = ct1 := by kernel_rfl
theorem tsum_1 : (compL tsumP).getD 1 default = ct2 := by kernel_rfl
theorem tsum_2 : (compL tsumP).getD 2 default = ct3 := by kernel_rfl
theorem two_ext : extA twoP [1] = [1, -1, 1, -1] := by kernel_rfl
/-- Small enough for pb.String. -/
def smallC (c : PBC) : Bool := pbV c && (c.lits.zip c.coefs).all (fun q => decide (q.1.natAbs < 100 ∧ 0 ≤ q.2 ∧ q.2 < 100)) && decide (0 ≤ c.bound ∧ c.bound < 100) && decide (c.lits.length = c.coefs.length ∧ c.lits.length ≤ 1000)

theorem smallC_all : (compL twoP).all smallC = true := by rw [two_comp]; kernel_rfl
theorem small_t1 : smallC ct1 = true := by kernel_rfl
theorem small_t2 : smallC ct2 = true := by kernel_rfl
theorem small_t3 : smallC ct3 = true := by kernel_rfl

theorem d1 : Lib.decDigits 1 = [49] := by unfold Lib.decDigits; rfl
theorem d2 : Lib.decDigits 2 = [50] := by unfold Lib.decDigits; rfl
theorem d3 : Lib.decDigits 3 = [51] := by unfold Lib.decDigits; rfl
theorem d4 : Lib.decDigits 4 = [52] := by unfold Lib.decDigits; rfl

theorem st_cq1 : strT cq1 = [49, 32, 126, 120, 50, 32, 49, 32, 126, 120, 51, 32, 62, 61, 32, 49] := by simp [strT, headT, itemT, cq1, d1, d2, d3]
theorem st_cq2 : strT cq2 = [49, 32, 120, 50, 32, 49, 32, 120, 51, 32, 62, 61, 32, 49] := by simp [strT, headT, itemT, cq2, d1, d2, d3]
theorem st_cq3 : strT cq3 = [49, 32, 120, 49, 32, 49, 32, 126, 120, 51, 32, 62, 61, 32, 49] := by simp [strT, headT, itemT, cq3, d1, d3]
theorem st_cq4 : strT cq4 = [49, 32, 126, 120, 49, 32, 49, 32, 126, 120, 52, 32, 62, 61, 32, 49] := by simp [strT, headT, itemT, cq4, d1, d4]
theorem st_cq5 : strT cq5 = [49, 32, 120, 49, 32, 49, 32, 120, 52, 32, 62, 61, 32, 49] := by simp [strT, headT, itemT, cq5, d1, d4]
theorem st_cq6 : strT cq6 = [49, 32, 120, 50, 32, 49, 32, 126, 120, 52, 32, 62, 61, 32, 49] := by simp [strT, headT, itemT, cq6, d1, d2, d4]
theorem st_cq7 : strT cq7 = [49, 32, 126, 120, 49, 32, 49, 32, 120, 51, 32, 62, 61, 32, 49] := by simp [strT, headT, itemT, cq7, d1, d3]
theorem st_cq8 : strT cq8 = [49, 32, 126, 120, 50, 32, 49, 32, 120, 52, 32, 62, 61, 32, 49] := by simp [strT, headT, itemT, cq8, d1, d2, d4]
theorem st_ct1 : strT ct1 = [49, 32, 120, 49, 32, 50, 32, 120, 50, 32, 50, 32, 126, 120, 52, 32, 62, 61, 32, 50] := by simp [strT, headT, itemT, ct1, d1, d2, d4]
theorem st_ct2 : strT ct2 = [49, 32, 126, 120, 49, 32, 50, 32, 126, 120, 50, 32, 50, 32, 120, 52, 32, 62, 61, 32, 50] := by simp [strT, headT, itemT, ct2, d1, d2, d4]
theorem st_ct3 : strT ct3 = [49, 32, 120, 51, 32, 49, 32, 126, 120, 52, 32, 62, 61, 32, 49] := by simp [strT, headT, itemT, ct3, d1, d3, d4]

/-- The texts of two constraints lists. -/
def textL (l : List PBC) : List ByteArray := l.map fun c => ⟨(strT c).toArray⟩
def twoT : List ByteArray := [⟨#[49, 32, 126, 120, 50, 32, 49, 32, 126, 120, 51, 32, 62, 61, 32, 49]⟩, ⟨#[49, 32, 120, 50, 32, 49, 32, 120, 51, 32, 62, 61, 32, 49]⟩, ⟨#[49, 32, 120, 49, 32, 49, 32, 126, 120, 51, 32, 62, 61, 32, 49]⟩, ⟨#[49, 32, 126, 120, 49, 32, 49, 32, 126, 120, 52, 32, 62, 61, 32, 49]⟩, ⟨#[49, 32, 120, 49, 32, 49, 32, 120, 52, 32, 62, 61, 32, 49]⟩, ⟨#[49, 32, 120, 50, 32, 49, 32, 126, 120, 52, 32, 62, 61, 32, 49]⟩, ⟨#[49, 32, 126, 120, 49, 32, 49, 32, 120, 51, 32, 62, 61, 32, 49]⟩, ⟨#[49, 32, 126, 120, 50, 32, 49, 32, 120, 52, 32, 62, 61, 32, 49]⟩]
theorem two_text : textL (compL twoP) = twoT := by
  rw [two_comp]
  simp only [textL, List.map_cons, List.map_nil, st_cq1, st_cq2, st_cq3, st_cq4, st_cq5, st_cq6, st_cq7, st_cq8]
  rfl

end Go.Proofs.YtfhpfbakoiekpaaGreatDoor
