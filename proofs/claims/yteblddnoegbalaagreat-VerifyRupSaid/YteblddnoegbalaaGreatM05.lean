/- My texts Pb1, Pb2, PbL, PbV, ExtR, merged. -/
import Derived.Test.YteblddnoegbalaaGreatM04
import Derived.Test.YteblddnoegbalaaGreatM03
import Derived.Test.YteblddnoegbalaaGreatM00
import Derived.Test.YteblddnoegbalaaGreatProg
import Derived.WalkKit
import Derived.Lib.Hide
import Derived.Deep.QuietTactic
import Derived.BigQuiet
import Derived.WalkSpells
import Derived.Lib.SliceRun
import Derived.MapKept
import Derived.Maps.OwnSet
import Derived.Maps.OwnOps
import Derived.Test.YteblddnoegbalaaGreatM02
import Derived.Test.YteblddnoegbalaaGreatM01
import Derived.Deep.AppendLies
import Derived.Lib.Bytealg
import Derived.Deep.DeepCutAuto
import Derived.RangeFuncNested
import Derived.RangeFuncBound
import Derived.RangeFuncCalls
import Derived.RangeFuncLeaves
import Derived.OwnWalkIn
import Derived.TacticsInMore
import Derived.LoopNIn
import Derived.LoopIn
import Derived.Stop.RegionWithIn
import Derived.Shelf.Abstract
import Derived.Sort.QuietThIn

namespace Go.Proofs.YteblddnoegbalaaGreat
open Go.RowKit Go.Shelf
attribute [local go_sem] Oper.semAt_some
def PBIs (w : World) (v : Value) (c : PBC) : Prop := ∃ vl vk, v = .agg #[vl, vk, .int .i64 c.bound] ∧ Ints w vl c.lits ∧ Ints w vk c.coefs ∧ InI c.bound
theorem PBIs.below {w w' : World} {v : Value} {c : PBC} (h : PBIs w v c) (hb : Below w.heap.size w w') : PBIs w' v c :=
  let ⟨vl, vk, e, h1, h2, h3⟩ := h; ⟨vl, vk, e, h1.below hb, h2.below hb, h3⟩
theorem pliteral_any (l : Int) (w : World) : Calls Tryz.prog 57 #[.int .i64 l] w fun e w' => e = .returned (.bool (plitB l)) ∧ w = w' := by
  by_cases h0 : l = 0
  · subst h0
    go_enter Tryz.func57, Tryz.ntmps57
    go_wp2
    go_ret
    exact ⟨rfl, rfl⟩
  · by_cases h1 : -65536 ≤ l
    · by_cases h2 : l ≤ 65536
      · have HF : Hid (plitB l = true) := Lib.hid (by unfold plitB; simp [h0, h1, h2])
        go_enter Tryz.func57, Tryz.ntmps57
        go_wp2
        go_ret
        exact ⟨ret_bool (by rw [HF.out]; try simp_all), rfl⟩
      · have HF : Hid (plitB l = false) := Lib.hid (by unfold plitB; simp [h2])
        go_enter Tryz.func57, Tryz.ntmps57
        go_wp2
        go_ret
        exact ⟨ret_bool (by rw [HF.out]; try simp_all), rfl⟩
    · have HF : Hid (plitB l = false) := Lib.hid (by unfold plitB; simp [h1])
      go_enter Tryz.func57, Tryz.ntmps57
      go_wp2
      go_ret
      exact ⟨ret_bool (by rw [HF.out]; try simp_all), rfl⟩
theorem abs_any (l : Int) (hl : -4611686018427387904 ≤ l ∧ l ≤ 4611686018427387904) (w : World) : Calls Tryz.prog 58 #[.int .i64 l] w fun e w' => e = .returned (.int .i64 l.natAbs) ∧ w = w' := by
  go_enter Tryz.func58, Tryz.ntmps58
  go_wp2
  all_goals
    go_ret
    refine ⟨ret_int ?_, rfl⟩
    omega
theorem parts_any (vl vk : Value) (bd : Int) (w : World) (hl : ∃ a n c, vl = .slice a n c) (hk : ∃ a n c, vk = .slice a n c) :
    Calls Tryz.prog 45 #[.agg #[vl, vk, .int .i64 bd]] w fun e w' => e = .returned (.func (.func 82) #[] #[.pointer (some ⟨w.heap.size, 0, none⟩)]) ∧ Below w.heap.size w w' ∧ Blk w' w.heap.size [vl, vk, .int .i64 bd] 25 := by
  obtain ⟨a1, n1, c1, rfl⟩ := hl
  obtain ⟨a2, n2, c2, rfl⟩ := hk
  have HB : Hid (Below w.heap.size w (w.alloc (.cells #[.slice a1 n1 c1, .slice a2 n2 c2, .int .i64 bd] 25))) := Lib.hid (bal (Below.refl _ _) _)
  have HK := Lib.hid (Blk.new w [.slice a1 n1 c1, .slice a2 n2 c2, .int .i64 bd] 25)
  go_enter Tryz.func45, Tryz.ntmps45
  go_wp2
  go_ret
  exact ⟨rfl, HB.out, HK.out⟩
abbrev PV (c : PBC) := { q : Int × Int // q ∈ c.lits.zip c.coefs }
def pvs {c : PBC} (l : List (PV c)) : List (Int × Int) := l.map (·.1)
theorem pvs_snoc {c : PBC} (l : List (PV c)) (x : PV c) : pvs (l ++ [x]) = pvs l ++ [x.1] := by simp [pvs]
theorem pvs_len {c : PBC} (l : List (PV c)) : (pvs l).length = l.length := by simp [pvs]
theorem zip_at {L K : List Int} {k : Nat} (hk : k < L.length) (hl : L.length = K.length) : (L.zip K)[k]? = some (ix L k, ix K k) := by
  simp only [ix, List.getD_eq_getElem?_getD, List.getElem?_zip_eq_some, List.getElem?_eq_getElem hk, List.getElem?_eq_getElem (show k < K.length by omega), Option.getD_some, and_self]
theorem zip_take {L K : List Int} {k : Nat} (hk : k < L.length) (hl : L.length = K.length) : (L.zip K).take (k + 1) = (L.zip K).take k ++ [(ix L k, ix K k)] := by
  rw [List.take_add_one, zip_at hk hl]
  rfl
structure PartSt (wi w : World) (S : List Nat) (cb : Nat) (vl vk : Value) (bd : Int) : Prop where
  below : ∀ i, i < wi.heap.size → w.heap[i]? = wi.heap[i]?
  size : wi.heap.size ≤ w.heap.size
  box : Blk w cb [vl, vk, .int .i64 bd] 25
theorem PartSt.lim {wi w w' : World} {S : List Nat} {cb n : Nat} {vl vk : Value} {bd : Int} (h : PartSt wi w S cb vl vk bd) (hl : Lim n S w w') (hn : wi.heap.size ≤ n) (hcb : cb < n) (hS : ∀ s ∈ S, wi.heap.size ≤ s) (hne : cb ∉ S) : PartSt wi w' S cb vl vk bd :=
  ⟨fun i hi => (hl.block i (by omega) (fun hm => by have := hS i hm; omega)).trans (h.below i hi), Nat.le_trans h.size hl.size, h.box.same (hl.block cb hcb hne)⟩
def PartRel (c : PBC) (n0 : Nat) (S : List Nat) (W0 : World) (J : List (PV c) → World → Prop) (i : Value) (wr : World) : Prop :=
  ∃ (k : Nat) (pre : List (PV c)), k ≤ c.lits.length ∧ i = .int .i64 k ∧ pvs pre = (c.lits.zip c.coefs).take k ∧ J pre wr ∧ Lim n0 S W0 wr
theorem cell_of_same {w w' : World} {b o : Nat} (h : w'.heap[b]? = w.heap[b]?) : w'.cell? ⟨b, o, none⟩ = w.cell? ⟨b, o, none⟩ := World.cell?_of_block h
theorem yieldEnd2 {e : Ending} {A B : Prop} (h : (e = .returned (.bool true) ∧ A) ∨ (e = .returned (.bool false) ∧ B)) : ∃ b, e = .returned (.bool b) ∧ (b = true → A) ∧ (b = false → B) := by
  rcases h with ⟨rfl, h⟩ | ⟨rfl, h⟩
  · exact ⟨true, rfl, fun _ => h, fun e => (Bool.noConfusion e)⟩
  · exact ⟨false, rfl, (fun e => Bool.noConfusion e), fun _ => h⟩
set_option maxHeartbeats 4000000 in
set_option maxRecDepth 100000 in
theorem parts_stops (c : PBC) (wi w0 : World) (vl vk : Value) (hL : Ints wi vl c.lits) (hK : Ints wi vk c.coefs) (hlen : c.lits.length = c.coefs.length) (S : List Nat) (cb : Nat)
    (hst : PartSt wi w0 S cb vl vk c.bound) (hS : ∀ s ∈ S, wi.heap.size ≤ s) (hne : cb ∉ S) (n : Nat) (hn : 1 ≤ n) :
    SeqStopsK Fence.wide n Tryz.prog 82 #[.pointer (some ⟨cb, 0, none⟩)] (fun x : PV c => #[.int .i64 x.1.1, .int .i64 x.1.2]) (Lim w0.heap.size S)
      (fun xs => pvs xs = c.lits.zip c.coefs) (fun pre => ∃ k, k ≤ c.lits.length ∧ pvs pre = (c.lits.zip c.coefs).take k) c.lits.length w0 := by
  intro l J Jx W hW hJ hJx hY h0
  obtain ⟨a1, c1, rfl, -, hl1, -, hcell1⟩ := hL.form
  obtain ⟨a2, c2, rfl, -, hl2, -, hcell2⟩ := hK.form
  have HC1 := Lib.hid hcell1
  have HC2 := Lib.hid hcell2
  have HY := Lib.hid hY
  have HJ := Lib.hid hJ
  have HJX := Lib.hid hJx
  have H0 := Lib.hid h0
  have HLEN := Lib.hid hlen
  have hcbl := hst.box.lt
  have hsz := hst.size
  have HS0 : Hid (PartSt wi W S cb (.slice a1 c.lits.length c1) (.slice a2 c.coefs.length c2) c.bound) := Lib.hid (hst.lim (.of_below hW (Nat.le_refl _)) hsz hcbl hS hne)
  have HS := Lib.hid hS
  have HNE := Lib.hid hne
  have kp := HS0.out.box.cell
  have hzW := hW.size
  clear hst hY hJ hJx h0 hW hcell1 hcell2 hL hK hS hne hlen
  refine callsIn_of_wp Tryz.func82 rfl trivial ?_ rfl
  simp only [Tryz.ntmps82, List.size_toArray, List.length_cons, List.length_nil, Nat.reduceAdd, Nat.reduceSub, Array.replicate_succ, Array.replicate_zero, List.push_toArray, List.append_toArray, List.nil_append, List.cons_append]
  gi_wp2
  clear kp
  gi_loopw [8] (fun i wr => PartRel c w0.heap.size S W J i wr) (fun i _ => c.lits.length - (intOf i).toNat)
  case atStart => exact ⟨0, [], Nat.zero_le _, rfl, by simp [pvs], H0.out, Lim.refl _ _ _⟩
  case round =>
    obtain ⟨k, pre, hk, rfl, hpre, hj, hlim⟩ := hrel
    have HJR := Lib.hid hj
    have HPRE := Lib.hid hpre
    have HLIM := Lib.hid hlim
    have HSR := Lib.hid (HS0.out.lim hlim hsz hcbl HS.out HNE.out)
    clear hj hpre hlim
    by_cases hlt : k < c.lits.length
    · have hlt2 : k < c.coefs.length := by have := HLEN.out; omega
      obtain ⟨b1, o1, rfl, hb1, hc1⟩ := HC1.out (by omega)
      obtain ⟨b2, o2, rfl, hb2, hc2⟩ := HC2.out (by omega)
      have k1 := (cell_of_same (o := o1 + k) (HSR.out.below b1 hb1)).trans (hc1 k hlt)
      have k2 := (cell_of_same (o := o2 + k) (HSR.out.below b2 hb2)).trans (hc2 k hlt2)
      have kr := HSR.out.box.cell
      have HLN : Hid (pre.length < c.lits.length) := Lib.hid (by
        have h1 := congrArg List.length HPRE.out
        rw [pvs_len, List.length_take] at h1
        have := Nat.min_le_left k (c.lits.zip c.coefs).length
        omega)
      have HM : Hid ((ix c.lits k, ix c.coefs k) ∈ c.lits.zip c.coefs) := Lib.hid (List.mem_of_getElem? (zip_at hlt HLEN.out))
      have HZ := Lib.hid (zip_take hlt HLEN.out)
      clear hc1 hc2
      obtain ⟨fn, tmps, assign, body, hy, hR⟩ := HY.out pre ⟨_, HM.out⟩ wr HJR.out HLN.out
      dsimp only at hy
      gi_wp2_with (refine hR.mono ?_; rintro e W3 h3; obtain ⟨bb, rfl, hbt, hbf⟩ := yieldEnd2 h3; have HBT := Lib.hid hbt; have HBF := Lib.hid hbf; clear hbt hbf h3)
      case roundEnd =>
        obtain rfl : bb = true := by simpa using ‹(!bb) = false›
        exact ⟨⟨k + 1, pre ++ [_], hlt, by go_num, by rw [pvs_snoc, HPRE.out, HZ.out], (HBT.out (by first | exact rfl | exact trivial)).1, HLIM.out.trans (HBT.out (by first | exact rfl | exact trivial)).2⟩, by simp [intOf]; omega⟩
      obtain rfl : bb = false := by simpa using ‹(!bb) = true›
      refine bodyPost_ret (results_none rfl _ _ _) rfl ?_
      exact ⟨⟨_, rfl⟩, .inr ⟨pre ++ [_], ⟨k + 1, hlt, by rw [pvs_snoc, HPRE.out, HZ.out]⟩, HBF.out (by first | exact rfl | exact trivial)⟩⟩
    · gi_wp2
      go_end0
      obtain rfl : k = c.lits.length := by omega
      exact ⟨⟨_, rfl⟩, .inl ⟨pre, by rw [HPRE.out, List.take_of_length_le (by rw [List.length_zip]; exact Nat.min_le_left _ _)], HJR.out⟩⟩
end Go.Proofs.YteblddnoegbalaaGreat
namespace Go.Proofs.YteblddnoegbalaaGreat
open Go.RowKit Go.Shelf
attribute [local go_sem] Oper.semAt_some
theorem blk_ownP {β : Type} (b : Nat) (c : List Value) (t : TypeId) : Own (fun (_ : β) W => Blk W b c t) := fun s X Y row hs hg hrow => by
  have hne : some b ≠ row := fun e' => by
    obtain ⟨_, ho, hc⟩ := hrow b e'.symm
    rw [show X.heap[b]? = _ from hs] at ho
    cases ho
    cases hc
  exact hs.same (hg.block b hs.lt hne)
theorem lim_b {S : List Nat} {w : World} (W : World) (l : Nat) (o o' : Obj) (hl : w.heap.size ≤ l) (h : W.heap[l]? = some o) (hc : o.isCells = false) (hw : o.isWalk = false) : Lim w.heap.size S W (W.putObj l o') :=
  .of_below (belowK_b (w := w) (Nat.le_refl _) W l o o' hl h hc hw) (Nat.le_refl _)
theorem parts_loop {c : PBC} {wi w1 : World} {vl vk : Value} (hL : Ints wi vl c.lits) (hK : Ints wi vk c.coefs) (hlen : c.lits.length = c.coefs.length) {S : List Nat} {cb : Nat}
    (hst : PartSt wi w1 S cb vl vk c.bound) (hS : ∀ s ∈ S, wi.heap.size ≤ s) (hne : cb ∉ S)
    {g : Operand} {ps : Array Tmp} {assign body : Code} {Q : Exit → Act → World → Prop} {a : Act} {n : Nat} (hn : 3 ≤ n)
    (hg : a.eval g = .func (.func 82) #[] #[.pointer (some ⟨cb, 0, none⟩)]) (hps : ps.size = 2)
    (I : List (PV c) → World → Prop) (Ix : Code → List (PV c) → World → Prop) (hI : OwnFrom w1.heap.size I) (hIx : ∀ c', OwnFrom w1.heap.size (Ix c')) (h0 : I [] w1) (a₁ : PV c → Act)
    (hassign : ∀ (l : Nat) (x : PV c) (W : World) (K : Act → World → Prop), K (a₁ x) W →
      assign.wpIn (Fence.wide.inRound l) (n - 1 - 1) Tryz.prog (Exit.then K (fun _ _ _ => False)) { tmps := (ps.zip #[Value.int .i64 x.1.1, .int .i64 x.1.2]).foldl (fun t (p, v) => t.setIfInBounds p v) a.tmps, defers := [] } W)
    (hbody : ∀ (l : Nat) (pre : List (PV c)) (x : PV c) (W : World), I pre W → pre.length < c.lits.length → body.wpIn (Fence.wide.inRound l) (n - 1 - 1) Tryz.prog (ownPostK (Lim w1.heap.size S) I Ix (pre ++ [x]) W) (a₁ x) W)
    (hdone : ∀ (D : Nat) (xs : List (PV c)) (W : World), w1.heap.size ≤ D → pvs xs = c.lits.zip c.coefs → I xs W → W.heap[D]? = some (.deferred (some [])) → Q .normal { a with defers := { target := .collected D, args := #[] } :: a.defers } W)
    (hstop : ∀ (D : Nat) (c' : Code) (pre : List (PV c)) (W : World), w1.heap.size ≤ D → (∃ k, k ≤ c.lits.length ∧ pvs pre = (c.lits.zip c.coefs).take k) → Ix c' pre W → W.heap[D]? = some (.deferred (some [])) → c'.wpIn Fence.wide n Tryz.prog Q { a with defers := { target := .collected D, args := #[] } :: a.defers } W) :
    (Code.rangeFunc g ps assign body).wpIn Fence.wide n Tryz.prog Q a w1 :=
  wpIn_rangeFunc_ownF rfl (by omega) (gf := 82) (lb := #[.pointer (some ⟨cb, 0, none⟩)]) hg trivial (enters_of Tryz.func82 (by kernel_rfl) rfl)
    (parts_stops c wi w1 vl vk hL hK hlen S cb hst hS hne (n - 1) (by omega)) (fun h k => h.trans k) (fun W l o o' hl h hc hw => lim_b W l o o' hl h hc hw) (Below.refl _ _) (fun _ => by rw [hps]; rfl)
    I Ix hI hIx h0 a₁ hassign hbody hdone hstop
def valI (a : List Int) (l : Int) : Int := if offB a l then -1 else if offB a (-l) then 1 else 0
set_option maxHeartbeats 1000000 in
theorem pvalue_any (va : Value) (a : List Int) (w : World) (h : Bytes8 w va a) (l : Int) (hl0 : l ≠ 0) (hl : -4611686018427387904 ≤ l ∧ l ≤ 4611686018427387904) :
    Calls Tryz.prog 46 #[va, .int .i64 l] w fun e w' => e = .returned (.int .i64 (valI a l)) ∧ w = w' := by
  obtain ⟨⟨ad, cap, rfl, hcap, hmx, -, hc⟩, hb8⟩ := h
  have e8 : a.length < 9223372036854775808 := by unfold maxLen at hmx; omega
  obtain ⟨n, hn1, hln⟩ : ∃ n : Nat, 1 ≤ n ∧ (l = n ∨ l = -(n : Int)) := ⟨l.natAbs, by omega, by omega⟩
  have hneg : - -(n : Int) = n := by omega
  have HP := offB_pos a n hn1
  have HN := offB_neg a n
  by_cases h1 : n ≤ a.length
  · obtain ⟨b0, off0, rfl, hbl, hcc⟩ := hc (by omega)
    have hk : w.cell? ⟨b0, off0 + (n - 1), none⟩ = some (.int .i8 (ix a (n - 1))) := hcc (n - 1) (by omega)
    have hb := hb8 (n - 1)
    rw [decide_eq_true h1, Bool.true_and] at HP HN
    clear hcc hc hb8
    generalize ix a (n - 1) = y at *
    by_cases y0 : y = 0
    · subst y0
      have hp : offB a (n : Int) = false := by rw [HP]; simp
      have hn : offB a (-(n : Int)) = false := by rw [HN]; simp
      clear HP HN
      rcases hln with rfl | rfl
      · have HV : Hid (valI a n = 0) := Lib.hid (by unfold valI; rw [hp, hn]; rfl)
        clear hp hn
        go_enter Tryz.func46, Tryz.ntmps46
        go_wp2_with (go_at_call 58; (with_reducible refine (abs_any _ (by omega) _).mono ?_); rintro e w1 ⟨rfl, rfl⟩)
        go_ret
        exact ⟨ret_int HV.out.symm, rfl⟩
      · have HV : Hid (valI a (-(n : Int)) = 0) := Lib.hid (by unfold valI; rw [hneg, hp, hn]; rfl)
        clear hp hn
        go_enter Tryz.func46, Tryz.ntmps46
        go_wp2_with (go_at_call 58; (with_reducible refine (abs_any _ (by omega) _).mono ?_); rintro e w1 ⟨rfl, rfl⟩)
        go_ret
        exact ⟨ret_int HV.out.symm, rfl⟩
    · have hy0 : (y == 0) = false := by simp; omega
      by_cases hy : 0 < y
      · have hp : offB a (n : Int) = false := by rw [HP, decide_eq_false (show ¬ ¬ 0 < y by omega)]; simp
        have hn : offB a (-(n : Int)) = true := by rw [HN, decide_eq_true hy, decide_eq_true y0]; rfl
        have hyp : decide (0 < y) = true := decide_eq_true hy
        have hnp : decide (0 < n) = true := decide_eq_true (by omega)
        have hnn : decide ((n : Int) < 0) = false := decide_eq_false (by omega)
        clear HP HN y0
        rcases hln with rfl | rfl
        · have HV : Hid (valI a n = 1) := Lib.hid (by unfold valI; rw [hp, hn]; rfl)
          clear hp hn
          go_enter Tryz.func46, Tryz.ntmps46
          go_wp2_with (go_at_call 58; (with_reducible refine (abs_any _ (by omega) _).mono ?_); rintro e w1 ⟨rfl, rfl⟩)
          go_ret
          exact ⟨ret_int HV.out.symm, rfl⟩
        · have HV : Hid (valI a (-(n : Int)) = -1) := Lib.hid (by unfold valI; rw [hn]; rfl)
          clear hp hn
          go_enter Tryz.func46, Tryz.ntmps46
          go_wp2_with (go_at_call 58; (with_reducible refine (abs_any _ (by omega) _).mono ?_); rintro e w1 ⟨rfl, rfl⟩)
          go_ret
          exact ⟨ret_int HV.out.symm, rfl⟩
      · have hp : offB a (n : Int) = true := by rw [HP, decide_eq_true (show ¬ 0 < y by omega), decide_eq_true y0]; rfl
        have hn : offB a (-(n : Int)) = false := by rw [HN, decide_eq_false hy]; simp
        have hyp : decide (0 < y) = false := decide_eq_false hy
        have hnp : decide (0 < n) = true := decide_eq_true (by omega)
        have hnn : decide ((n : Int) < 0) = false := decide_eq_false (by omega)
        clear HP HN y0
        rcases hln with rfl | rfl
        · have HV : Hid (valI a n = -1) := Lib.hid (by unfold valI; rw [hp]; rfl)
          clear hp hn
          go_enter Tryz.func46, Tryz.ntmps46
          go_wp2_with (go_at_call 58; (with_reducible refine (abs_any _ (by omega) _).mono ?_); rintro e w1 ⟨rfl, rfl⟩)
          go_ret
          exact ⟨ret_int HV.out.symm, rfl⟩
        · have HV : Hid (valI a (-(n : Int)) = 1) := Lib.hid (by unfold valI; rw [hneg, hp, hn]; rfl)
          clear hp hn
          go_enter Tryz.func46, Tryz.ntmps46
          go_wp2_with (go_at_call 58; (with_reducible refine (abs_any _ (by omega) _).mono ?_); rintro e w1 ⟨rfl, rfl⟩)
          go_ret
          exact ⟨ret_int HV.out.symm, rfl⟩
  · have hp : offB a (n : Int) = false := by rw [HP, decide_eq_false h1]; simp
    have hn : offB a (-(n : Int)) = false := by rw [HN, decide_eq_false h1]; simp
    have h1' : (a.length : Int) < n := by omega
    clear HP HN
    rcases hln with rfl | rfl
    · have HV : Hid (valI a n = 0) := Lib.hid (by unfold valI; rw [hp, hn]; rfl)
      clear hp hn
      go_enter Tryz.func46, Tryz.ntmps46
      go_wp2_with (go_at_call 58; (with_reducible refine (abs_any _ (by omega) _).mono ?_); rintro e w1 ⟨rfl, rfl⟩)
      go_ret
      exact ⟨ret_int HV.out.symm, rfl⟩
    · have HV : Hid (valI a (-(n : Int)) = 0) := Lib.hid (by unfold valI; rw [hneg, hp, hn]; rfl)
      clear hp hn
      go_enter Tryz.func46, Tryz.ntmps46
      go_wp2_with (go_at_call 58; (with_reducible refine (abs_any _ (by omega) _).mono ?_); rintro e w1 ⟨rfl, rfl⟩)
      go_ret
      exact ⟨ret_int HV.out.symm, rfl⟩
end Go.Proofs.YteblddnoegbalaaGreat
namespace Go.Proofs.YteblddnoegbalaaGreat
def sumW (t : Int → Bool) : List (Int × Int) → Int
  | [] => 0
  | x :: l => (if t x.1 then x.2 else 0) + sumW t l
def sumLK (t : Int → Bool) (L K : List Int) : Nat → Int
  | 0 => 0
  | i + 1 => sumLK t L K i + (if t (ix L i) then ix K i else 0)
def satC (t : Int → Bool) (c : PBC) : Bool := decide (c.bound ≤ sumW t (c.lits.zip c.coefs))
def Tot (t : Int → Bool) : Prop := ∀ l, l ≠ 0 → t (-l) = !t l
theorem sumW_snoc (t : Int → Bool) : ∀ (l : List (Int × Int)) (x : Int × Int), sumW t (l ++ [x]) = sumW t l + if t x.1 then x.2 else 0
  | [], x => by simp [sumW]
  | y :: l, x => by simp only [List.cons_append, sumW, sumW_snoc t l x]; omega
theorem sumW_zip (t : Int → Bool) (g f : Int → Int) : ∀ V : List Int, sumW t ((V.map g).zip (V.map f)) = sumI (fun v => if t (g v) then f v else 0) V
  | [] => rfl
  | v :: V => by simp only [List.map_cons, List.zip_cons_cons, sumW, sumI, sumW_zip t g f V]
theorem sumI_congr {f g : Int → Int} : ∀ {V : List Int}, (∀ v ∈ V, f v = g v) → sumI f V = sumI g V
  | [], _ => rfl
  | v :: V, h => by
    simp only [sumI]
    rw [h v (.head _), sumI_congr fun u hu => h u (.tail _ hu)]
theorem sumI_add (f g : Int → Int) : ∀ V : List Int, sumI (fun v => f v + g v) V = sumI f V + sumI g V
  | [] => rfl
  | v :: V => by simp only [sumI, sumI_add f g V]; omega
theorem sumI_zero : ∀ V : List Int, sumI (fun _ => 0) V = 0
  | [] => rfl
  | v :: V => by simp only [sumI, sumI_zero V]; omega
theorem sumI_delta (d v0 : Int) : ∀ V : List Int, V.Nodup → v0 ∈ V → sumI (fun v => if v = v0 then d else 0) V = d
  | [], _, h => by cases h
  | v :: V, hn, h => by
    obtain ⟨h1, h2⟩ := List.nodup_cons.1 hn
    simp only [sumI]
    by_cases e : v = v0
    · subst e
      rw [if_pos rfl, sumI_congr (g := fun _ => 0) fun u hu => if_neg (fun e' : u = v => h1 (e' ▸ hu)), sumI_zero]
      omega
    · rw [if_neg e, sumI_delta d v0 V h2 ((List.mem_cons.1 h).resolve_left fun e' => e e'.symm)]
      omega
theorem sumI_filter (f : Int → Int) (p : Int → Bool) : ∀ V : List Int, (∀ v ∈ V, p v = false → f v = 0) → sumI f (V.filter p) = sumI f V
  | [], _ => rfl
  | v :: V, h => by
    have ih := sumI_filter f p V fun u hu => h u (.tail _ hu)
    cases hp : p v with
    | true => rw [List.filter_cons_of_pos hp]; simp only [sumI, ih]
    | false => rw [List.filter_cons_of_neg (by simp [hp])]; simp only [sumI, ih, h v (.head _) hp]; omega
theorem sumI_nonneg {f : Int → Int} : ∀ {V : List Int}, (∀ v ∈ V, 0 ≤ f v) → 0 ≤ sumI f V
  | [], _ => by simp [sumI]
  | v :: V, h => by
    have := sumI_nonneg fun u hu => h u (.tail _ hu)
    have := h v (.head _)
    simp only [sumI]; omega
theorem sumI_le {f g : Int → Int} : ∀ {V : List Int}, (∀ v ∈ V, f v ≤ g v) → sumI f V ≤ sumI g V
  | [], _ => by simp [sumI]
  | v :: V, h => by
    have := sumI_le fun u hu => h u (.tail _ hu)
    have := h v (.head _)
    simp only [sumI]; omega
theorem sumI_mem_le {f : Int → Int} {x : Int} : ∀ {V : List Int}, (∀ v ∈ V, 0 ≤ f v) → x ∈ V → f x ≤ sumI f V
  | [], _, h => by cases h
  | v :: V, h, hx => by
    simp only [sumI]
    rcases List.mem_cons.1 hx with rfl | hx
    · have := sumI_nonneg (V := V) fun u hu => h u (.tail _ hu); omega
    · have := sumI_mem_le (V := V) (fun u hu => h u (.tail _ hu)) hx
      have := h v (.head _)
      omega
theorem clip_iff {m : Int → Int} {p : Int → Bool} {bd : Int} (hb : 0 < bd) {V : List Int} (hm : ∀ v ∈ V, 0 ≤ m v) :
    bd ≤ sumI (fun v => if p v then minI (m v) bd else 0) V ↔ bd ≤ sumI (fun v => if p v then m v else 0) V := by
  constructor
  · intro h
    refine Int.le_trans h (sumI_le fun v hv => ?_)
    have := hm v hv
    split
    · unfold minI; split <;> omega
    · omega
  · intro h
    by_cases hx : ∃ v ∈ V, p v = true ∧ bd ≤ m v
    · obtain ⟨v, hv, hp, hb2⟩ := hx
      have h1 := sumI_mem_le (f := fun v => if p v then minI (m v) bd else 0) (x := v) (V := V) (fun u hu => by
        have := hm u hu
        show 0 ≤ if p u then minI (m u) bd else 0
        split
        · unfold minI; split <;> omega
        · omega) hv
      simp only [hp, if_true] at h1
      have : minI (m v) bd = bd := by unfold minI; split <;> omega
      omega
    · rw [sumI_congr (g := fun v => if p v then m v else 0) fun v hv => ?_]
      · exact h
      · show (if p v then minI (m v) bd else 0) = if p v then m v else 0
        cases hp : p v with
        | false => rfl
        | true =>
          have : ¬ bd ≤ m v := fun h => hx ⟨v, hv, hp, h⟩
          simp only [if_true]
          unfold minI; rw [if_pos (by omega)]
theorem byTo_succ (L K : List Int) (v : Int) (i : Nat) : byTo L K v (i + 1) = byTo L K v i + (if ix L i = v then ix K i else if ix L i = -v then -ix K i else 0) := rfl
theorem byTo_zero_of {L K : List Int} {v : Int} : ∀ (i : Nat), (∀ j, j < i → ix L j ≠ v ∧ ix L j ≠ -v) → byTo L K v i = 0
  | 0, _ => rfl
  | i + 1, h => by
    rw [byTo_succ]
    have := h i (by omega)
    rw [byTo_zero_of i fun j hj => h j (by omega), if_neg this.1, if_neg this.2]
    omega
theorem sum_vars {t : Int → Bool} (ht : Tot t) {L K : List Int} {V : List Int} (hn : V.Nodup) (hpos : ∀ v ∈ V, 0 < v) :
    ∀ (i : Nat), (∀ j, j < i → ix L j ≠ 0 ∧ ((ix L j).natAbs : Int) ∈ V) →
      sumLK t L K i = negTo L K i + sumI (fun v => if t v then byTo L K v i else 0) V
  | 0, _ => by
    simp only [sumLK, negTo, byTo]
    rw [sumI_congr (g := fun _ => 0) fun v _ => by simp, sumI_zero]; rfl
  | i + 1, h => by
    have ih := sum_vars (K := K) ht hn hpos i fun j hj => h j (by omega)
    obtain ⟨h1, h2⟩ := h i (by omega)
    have hd := sumI_delta (if t ((ix L i).natAbs : Int) then (if 0 < ix L i then ix K i else -ix K i) else 0) ((ix L i).natAbs : Int) V hn h2
    have hc : sumI (fun v => if t v then byTo L K v (i + 1) else 0) V = sumI (fun v => (if t v then byTo L K v i else 0) + (if v = ((ix L i).natAbs : Int) then (if t ((ix L i).natAbs : Int) then (if 0 < ix L i then ix K i else -ix K i) else 0) else 0)) V := by
      refine sumI_congr fun v hv => ?_
      have hv0 := hpos v hv
      show (if t v then byTo L K v (i + 1) else 0) = _
      rw [byTo_succ]
      by_cases e : v = ((ix L i).natAbs : Int)
      · subst e
        rw [if_pos rfl]
        cases t ((ix L i).natAbs : Int) with
        | false => simp
        | true =>
          simp only [if_true]
          by_cases hp : 0 < ix L i
          · rw [if_pos (show ix L i = ((ix L i).natAbs : Int) by omega), if_pos hp]
          · rw [if_neg (show ¬ ix L i = ((ix L i).natAbs : Int) by omega), if_pos (show ix L i = -((ix L i).natAbs : Int) by omega), if_neg hp]
      · rw [if_neg e, if_neg (show ¬ ix L i = v by omega), if_neg (show ¬ ix L i = -v by omega)]
        simp
    rw [hc, sumI_add, hd]
    unfold sumLK negTo
    rw [ih]
    by_cases hp : 0 < ix L i
    · have e : ((ix L i).natAbs : Int) = ix L i := by omega
      rw [e, if_pos hp, if_neg (show ¬ ix L i < 0 by omega)]
      omega
    · have e : ((ix L i).natAbs : Int) = -ix L i := by omega
      have ht2 := ht (ix L i) h1
      rw [e, if_neg hp, if_pos (show ix L i < 0 by omega), ht2]
      cases t (ix L i) <;> simp <;> omega
theorem sum_lits {t : Int → Bool} (ht : Tot t) {by' : Int → Int} : ∀ {V : List Int}, (∀ v ∈ V, v ≠ 0) →
    sumI (fun v => if t v then by' v else 0) V = sumI (fun v => if t (litOf by' v) then absI (by' v) else 0) V + sumI (fun v => lowI (by' v)) V := by
  intro V hV
  rw [← sumI_add]
  refine sumI_congr fun v hv => ?_
  show (if t v then by' v else 0) = (if t (litOf by' v) then absI (by' v) else 0) + lowI (by' v)
  unfold litOf absI lowI
  by_cases h : by' v < 0
  · simp only [if_pos h]
    rw [ht v (hV v hv)]
    cases t v <;> simp <;> omega
  · simp only [if_neg h]; omega
theorem satC_triv (t : Int → Bool) : satC t ⟨[], [], 0⟩ = true := by simp [satC, sumW]
theorem satC_contra (t : Int → Bool) : satC t ⟨[], [], 1⟩ = false := by simp [satC, sumW]
theorem keys_pos {L : List Int} (h : ∀ j, j < L.length → ix L j ≠ 0) : ∀ v ∈ keysOf L, 0 < v := by
  intro v hv
  obtain ⟨l, hl, rfl⟩ := mem_keys.1 hv
  obtain ⟨j, hj, rfl⟩ := List.mem_iff_getElem.1 hl
  have := h j hj
  have e : ix L j = L[j] := by simp [ix, List.getD_eq_getElem?_getD, List.getElem?_eq_getElem hj]
  rw [e] at this
  omega
theorem ix_get {L : List Int} {j : Nat} (hj : j < L.length) : ix L j = L[j] := by simp [ix, List.getD_eq_getElem?_getD, List.getElem?_eq_getElem hj]
theorem normC_sat {t : Int → Bool} {by' : Int → Int} {V : List Int} {bd : Int} {c : PBC} (h : normC by' V bd = (c, 0)) :
    satC t c = true ↔ bd ≤ sumI (fun v => if t (litOf by' v) then absI (by' v) else 0) V := by
  have hab : ∀ v : Int, 0 ≤ absI (by' v) := fun v => by unfold absI; split <;> omega
  unfold normC at h
  split at h
  · rename_i h0
    cases h
    rw [satC_triv]
    refine ⟨fun _ => ?_, fun _ => rfl⟩
    refine Int.le_trans h0 (sumI_nonneg fun v _ => ?_)
    have := hab v
    show 0 ≤ if _ then _ else (0 : Int)
    split <;> omega
  · rename_i h0
    split at h
    · rename_i h1
      cases h
      rw [satC_contra]
      refine ⟨fun h => (by cases h), fun h => ?_⟩
      exfalso
      have h2 := (clip_iff (m := fun v => absI (by' v)) (p := fun v => t (litOf by' v)) (bd := bd) (by omega) (V := V) (fun v _ => hab v)).2 h
      have h3 := sumI_le (f := fun v => if t (litOf by' v) then minI (absI (by' v)) bd else 0) (g := fun v => minI (absI (by' v)) bd) (V := V) fun v _ => by
        have := hab v
        show (if _ then _ else (0 : Int)) ≤ _
        split
        · omega
        · unfold minI; split <;> omega
      omega
    · split at h
      · cases h
      · cases h
        unfold satC
        rw [decide_eq_true_eq]
        show bd ≤ sumW t ((V.map (litOf by')).zip (V.map fun v => minI (absI (by' v)) bd)) ↔ _
        rw [sumW_zip]
        exact clip_iff (m := fun v => absI (by' v)) (p := fun v => t (litOf by' v)) (by omega) fun v _ => hab v
theorem normP_sat {t : Int → Bool} (ht : Tot t) {L K : List Int} {B : Int} {c : PBC} (h : normP L K B = (c, 0)) : satC t c = true ↔ B ≤ sumLK t L K L.length := by
  unfold normP at h
  split at h
  · cases h
  split at h
  · cases h
  rename_i h1 h2
  have hok : ∀ j, j < L.length → pokAt L K j = true := allR_get (by simpa using h2)
  have hl : ∀ j, j < L.length → ix L j ≠ 0 := fun j hj => by
    have := hok j hj
    unfold pokAt plitB at this
    simp only [Bool.and_eq_true, decide_eq_true_eq] at this
    exact this.1.1
  have hV : ∀ j, j < L.length → ix L j ≠ 0 ∧ ((ix L j).natAbs : Int) ∈ keysOf L := fun j hj => ⟨hl j hj, mem_keys.2 ⟨ix L j, by rw [ix_get hj]; exact List.getElem_mem hj, rfl⟩⟩
  have hs := sum_vars (K := K) ht (sorted_nodup (keys_sorted L)) (keys_pos hl) L.length hV
  have hb := sum_lits ht (by' := fun v => byTo L K v L.length) (V := keysOf L) fun v hv => by have := keys_pos hl v hv; omega
  rw [normC_sat h, sumI_filter]
  · omega
  · intro v _ hv
    have : byTo L K v L.length = 0 := by simpa using hv
    show (if _ then absI (byTo L K v L.length) else (0 : Int)) = 0
    rw [this]; simp [absI]
end Go.Proofs.YteblddnoegbalaaGreat
namespace Go.Proofs.YteblddnoegbalaaGreat
def chkB (bd last : Int) (x : Int × Int) : Bool := plitB x.1 && decide (last < (x.1.natAbs : Int)) && decide (1 ≤ x.2) && decide (x.2 ≤ bd)
def lastF (last : Int) (l : List (Int × Int)) : Int := l.foldl (fun _ x => (x.1.natAbs : Int)) last
def okF (bd : Int) : Int → List (Int × Int) → Bool
  | _, [] => true
  | last, x :: l => chkB bd last x && okF bd (x.1.natAbs : Int) l
def sumP : List (Int × Int) → Int
  | [] => 0
  | x :: l => x.2 + sumP l
theorem lastF_snoc (last : Int) (l : List (Int × Int)) (x : Int × Int) : lastF last (l ++ [x]) = (x.1.natAbs : Int) := by simp [lastF]
theorem okF_snoc (bd : Int) : ∀ (l : List (Int × Int)) (last : Int) (x : Int × Int), okF bd last (l ++ [x]) = (okF bd last l && chkB bd (lastF last l) x)
  | [], last, x => by simp [okF, lastF]
  | y :: l, last, x => by
    have ih := okF_snoc bd l (y.1.natAbs : Int) x
    simp only [List.cons_append, okF, ih, lastF, List.foldl_cons, Bool.and_assoc]
theorem sumP_snoc : ∀ (l : List (Int × Int)) (x : Int × Int), sumP (l ++ [x]) = sumP l + x.2
  | [], x => by simp [sumP]
  | y :: l, x => by simp only [List.cons_append, sumP, sumP_snoc l x]; omega
theorem okF_bound {bd : Int} : ∀ (l : List (Int × Int)) (last : Int), 0 ≤ last → okF bd last l = true → last + l.length ≤ lastF last l ∧ 0 ≤ sumP l ∧ sumP l ≤ bd * l.length ∧ (l ≠ [] → lastF last l ≤ 65536)
  | [], last, h, _ => by simp [lastF, sumP]
  | x :: l, last, h, ho => by
    unfold okF chkB plitB at ho
    simp only [Bool.and_eq_true, decide_eq_true_eq] at ho
    obtain ⟨⟨⟨⟨h1, h2⟩, h3⟩, h4⟩, h5⟩ := ho
    obtain ⟨i1, i2, i3, i4⟩ := okF_bound l (x.1.natAbs : Int) (by omega) h5
    have e : lastF last (x :: l) = lastF (x.1.natAbs : Int) l := rfl
    rw [e]
    simp only [sumP, List.length_cons]
    push_cast
    rw [Int.mul_add]
    refine ⟨by omega, by omega, by omega, fun _ => ?_⟩
    cases l with
    | nil => simp only [lastF, List.foldl_nil]; omega
    | cons y l => exact i4 (by simp)
def pbV (c : PBC) : Bool :=
  decide (c.lits.length = c.coefs.length) && decide (0 ≤ c.bound ∧ c.bound ≤ 16777216) && okF c.bound 0 (c.lits.zip c.coefs) && (decide (c.bound ≤ sumP (c.lits.zip c.coefs)) || (decide (c.lits.length = 0) && decide (c.bound = 1)))
theorem okF_false {bd : Int} : ∀ (l r : List (Int × Int)) (last : Int), okF bd last l = false → okF bd last (l ++ r) = false
  | [], r, last, h => by simp [okF] at h
  | x :: l, r, last, h => by
    simp only [List.cons_append, okF, Bool.and_eq_false_iff] at h ⊢
    rcases h with h | h
    · exact .inl h
    · exact .inr (okF_false l r _ h)
theorem okF_of {bd : Int} : ∀ {l : List (Int × Int)} {last : Int}, (∀ x ∈ l, plitB x.1 = true ∧ last < (x.1.natAbs : Int) ∧ 1 ≤ x.2 ∧ x.2 ≤ bd) → l.Pairwise (fun x y => (x.1.natAbs : Int) < (y.1.natAbs : Int)) → okF bd last l = true
  | [], _, _, _ => rfl
  | x :: l, last, h, hp => by
    obtain ⟨h1, h2⟩ := List.pairwise_cons.1 hp
    obtain ⟨a, b, c, d⟩ := h x (.head _)
    unfold okF chkB
    rw [a, decide_eq_true b, decide_eq_true c, decide_eq_true d, okF_of (fun y hy => ⟨(h y (.tail _ hy)).1, h1 y hy, (h y (.tail _ hy)).2.2⟩) h2]
    rfl
theorem sumP_zip (g f : Int → Int) : ∀ V : List Int, sumP ((V.map g).zip (V.map f)) = sumI f V
  | [] => rfl
  | v :: V => by simp only [List.map_cons, List.zip_cons_cons, sumP, sumI, sumP_zip g f V]
theorem litOf_abs (by' : Int → Int) {v : Int} (hv : 0 < v) : ((litOf by' v).natAbs : Int) = v := by unfold litOf; split <;> omega
theorem normC_valid {by' : Int → Int} {V : List Int} {bd : Int} {c : PBC} (h : normC by' V bd = (c, 0)) (hs : V.Pairwise (· < ·)) (hv : ∀ v ∈ V, 0 < v ∧ v ≤ 65536 ∧ by' v ≠ 0) : pbV c = true := by
  unfold normC at h
  split at h
  · cases h; decide
  · split at h
    · cases h; decide
    · split at h
      · cases h
      · rename_i h1 h2 h3
        cases h
        unfold pbV
        simp only [List.length_map, decide_true, Bool.true_and]
        have hok : okF bd 0 ((V.map (litOf by')).zip (V.map fun v => minI (absI (by' v)) bd)) = true := by
          rw [List.zip_map', ]
          refine okF_of (fun x hx => ?_) ?_
          · obtain ⟨v, hv', rfl⟩ := List.mem_map.1 hx
            obtain ⟨a, b, d⟩ := hv v hv'
            have e := litOf_abs by' a
            refine ⟨?_, by show 0 < ((litOf by' v).natAbs : Int); omega, ?_, ?_⟩
            · show plitB (litOf by' v) = true
              unfold plitB; rw [decide_eq_true_eq]; omega
            · show 1 ≤ minI (absI (by' v)) bd
              unfold minI absI; repeat' split
              all_goals omega
            · show minI (absI (by' v)) bd ≤ bd
              unfold minI; split <;> omega
          · rw [List.pairwise_map]
            refine hs.imp_of_mem fun {x y} hx hy hxy => ?_
            show ((litOf by' x).natAbs : Int) < ((litOf by' y).natAbs : Int)
            rw [litOf_abs by' (hv x hx).1, litOf_abs by' (hv y hy).1]; exact hxy
        rw [hok, sumP_zip, decide_eq_true (show 0 ≤ bd ∧ bd ≤ 16777216 by omega), decide_eq_true (show bd ≤ sumI (fun v => minI (absI (by' v)) bd) V by omega)]
        rfl
theorem normP_form {L K : List Int} {B : Int} {c : PBC} (h : normP L K B = (c, 0)) : (∀ l ∈ L, plitB l = true) ∧ L.length = K.length ∧
    normC (fun v => byTo L K v L.length) ((keysOf L).filter fun v => byTo L K v L.length != 0) (B - negTo L K L.length - sumI (fun v => lowI (byTo L K v L.length)) (keysOf L)) = (c, 0) := by
  unfold normP at h
  split at h
  · cases h
  split at h
  · cases h
  rename_i h1 h2
  refine ⟨fun l hl => ?_, by omega, h⟩
  obtain ⟨j, hj, rfl⟩ := List.mem_iff_getElem.1 hl
  have := allR_get (f := pokAt L K) (by simpa using h2) j hj
  unfold pokAt at this
  rw [Bool.and_eq_true, ix_get hj] at this
  exact this.1
theorem normP_keys {L K : List Int} {B : Int} {c : PBC} (h : normP L K B = (c, 0)) : ∀ v ∈ (keysOf L).filter (fun v => byTo L K v L.length != 0), 0 < v ∧ v ≤ 65536 ∧ byTo L K v L.length ≠ 0 := by
  intro v hv
  obtain ⟨h1, h2⟩ := List.mem_filter.1 hv
  obtain ⟨l, hl, rfl⟩ := mem_keys.1 h1
  have := (normP_form h).1 l hl
  unfold plitB at this
  rw [decide_eq_true_eq] at this
  exact ⟨by omega, by omega, by simpa using h2⟩
theorem normP_valid {L K : List Int} {B : Int} {c : PBC} (h : normP L K B = (c, 0)) : pbV c = true :=
  normC_valid (normP_form h).2.2 ((keys_sorted L).filter _) (normP_keys h)
theorem normP_vars {L K : List Int} {B : Int} {c : PBC} (h : normP L K B = (c, 0)) : ∀ x ∈ c.lits, ∃ l ∈ L, l.natAbs = x.natAbs := by
  intro x hx
  have hf := (normP_form h).2.2
  have hk := normP_keys h
  unfold normC at hf
  split at hf
  · cases hf; cases hx
  · split at hf
    · cases hf; cases hx
    · split at hf
      · cases hf
      · cases hf
        obtain ⟨v, hv, rfl⟩ := List.mem_map.1 hx
        obtain ⟨l, hl, e⟩ := mem_keys.1 (List.mem_filter.1 hv).1
        have := litOf_abs (fun v => byTo L K v L.length) (hk v hv).1
        exact ⟨l, hl, by omega⟩
def setL (L : List Int) : List Int := L.foldr insK []
theorem mem_setL {x : Int} : ∀ {L : List Int}, x ∈ setL L ↔ x ∈ L
  | [] => by simp [setL]
  | y :: L => by
    show x ∈ insK y (setL L) ↔ _
    rw [mem_insK, mem_setL, List.mem_cons]
theorem setL_sorted : ∀ L : List Int, (setL L).Pairwise (· < ·)
  | [] => by simp [setL]
  | _ :: L => insK_sorted (setL_sorted L)
def ones (n : Nat) : List Int := List.replicate n 1
def clauseP (L : List Int) : PBC × Int := normP (setL L) (ones (setL L).length) 1
theorem mem_ix_iff {S : List Int} {x : Int} : x ∈ S ↔ ∃ j, j < S.length ∧ ix S j = x := by
  constructor
  · intro h
    obtain ⟨j, hj, rfl⟩ := List.mem_iff_getElem.1 h
    exact ⟨j, hj, ix_get hj⟩
  · rintro ⟨j, hj, rfl⟩
    rw [ix_get hj]; exact List.getElem_mem hj
end Go.Proofs.YteblddnoegbalaaGreat
namespace Go.Proofs.YteblddnoegbalaaGreat
open Go.RowKit
def noDefer (o : Oper) : Bool := match o.op with
  | .defer _ => false
  | _ => true
theorem noDefer_ne {o : Oper} (h : noDefer o = true) : ∀ c, o.op ≠ .defer c := by
  intro c e
  simp [noDefer, e] at h
section
variable {F : Fence} {n : Nat} {P : Program} {ops : Array Oper} {Q : Exit → Act → World → Prop}
theorem upon_inRound (r : Nat) {o : Oper} {a : Act} {next : Act → World → Prop} {x : Result Next} (h : o.uponIn F n P a next Q x) : o.uponIn (F.inRound r) n P a next Q x := by
  unfold Oper.uponIn at *
  split at h
  all_goals first | exact h | exact h.elim
theorem oper_inRound (r : Nat) (_hro : F.round = none) {o : Oper} (hd : noDefer o = true) {a : Act} {w : World} {next : Act → World → Prop} (h : o.wpIn F n P a w next Q) : o.wpIn (F.inRound r) n P a w next Q := by
  unfold Oper.wpIn at *
  refine ⟨h.1, ?_⟩
  have h2 := h.2
  rw [Oper.semAt_eq _ _ _ (noDefer_ne hd)] at h2
  rw [Oper.semAt_eq _ _ _ (noDefer_ne hd)]
  exact upon_inRound r h2
theorem ops_inRound (r : Nat) (hro : F.round = none) (hd : ops.all noDefer = true) : ∀ (l : List Nat) (a : Act) (w : World), wpOpsIn F n P ops Q l a w → wpOpsIn (F.inRound r) n P ops Q l a w
  | [], _, _, h => h
  | i :: rest, a, w, h => by
    simp only [wpOpsIn] at *
    cases ho : ops[i]? with
    | none =>
      simp only [ho] at h
      exact ops_inRound r hro hd rest a w h
    | some o =>
      simp only [ho] at h ⊢
      have hdo : noDefer o = true := by
        obtain ⟨hi, rfl⟩ := Array.getElem?_eq_some_iff.1 ho
        exact (Array.all_eq_true.1 hd) i hi
      split at h
      · rename_i hw
        rw [if_pos hw]
        exact oper_inRound r hro hdo (Oper.wpIn_mono (fun a w h => ops_inRound r hro hd rest a w h) h)
      · rename_i hw
        rw [if_neg hw]
        exact ⟨h.1, ops_inRound r hro hd rest _ _ h.2⟩
theorem quiet_wide {C : World → Prop} {K : Act → Prop} : ∀ (l : List Oper) (a : Act), wpQuiet P ops C K l a → wpQuietIn Fence.wide n P ops C K l a
  | [], _, h => h
  | o :: rest, a, h => by
    refine ⟨fun _ _ _ _ => trivial, ?_⟩
    simp only [wpQuiet] at h
    split
    · rename_i hw
      rw [if_pos hw] at h
      obtain ⟨v, h1, h2⟩ := h
      refine ⟨v, fun w hC => ?_, quiet_wide rest _ h2⟩
      have h3 := h1 w hC
      unfold Oper.quietAt at h3
      unfold Oper.quietAtIn
      cases hx : (execOp a.eval o).run P w with
      | halt s w' => rw [hx] at h3; exact h3.elim
      | ok x w' =>
        rw [hx] at h3
        cases x with
        | value u => exact h3
        | skip => exact h3
        | enter f args => exact ⟨h3.1, (fun e => by cases e), callsIn_wide.2 h3.2⟩
        | _ => exact h3.elim
    · rename_i hw
      rw [if_neg hw] at h
      exact quiet_wide rest _ h
end
theorem wp_region_extR {P : Program} {id n r : Nat} {Q : Exit → Act → World → Prop} {a : Act} {w : World} {l : List Oper} (hm : P.follows .mixedOrders = true) (hB : Region.lexB .any l.toArray = true) (hd : l.toArray.all noDefer = true)
    (h : wpQuiet P l.toArray (fun w' => ∃ e : Ext w, w' = e.world) (fun a' => ∀ w', (∃ e : Ext w, w' = e.world) → Q .normal a' w') l a) : (Code.region id l.toArray true).wpIn (Fence.wide.inRound r) n P Q a w := by
  refine wpIn_region_draw fun t => ops_inRound r rfl hd _ _ _ ?_
  simp only [Region.lexB, Bool.and_eq_true] at hB
  simp only [Region.schedule, hm, Bool.true_or, if_true]
  refine wpAnyIn_sound _ t _ a _ (wpAnyIn_of_quiet (F := Fence.wide) (n := n) (C := fun w' => ∃ e : Ext w, w' = e.world) (Q := fun a' => ∀ w', (∃ e : Ext w, w' = e.world) → Q .normal a' w') rfl (fun _ w' hw' h => h w' hw') _ _ _ _ ⟨⟨_, (Below.refl _ w).drew⟩, rfl⟩ ?_)
  have := wpAnyQIn_lex (F := Fence.wide) (n := n) (C := fun w' => ∃ e : Ext w, w' = e.world) (md := .any) hB.1 l.toArray.toList 0 (Array.replicate l.toArray.size false) a (by simp) (by simpa using hB.2) (by simpa using quiet_wide (n := n) _ _ h)
  simpa using this
end Go.Proofs.YteblddnoegbalaaGreat
