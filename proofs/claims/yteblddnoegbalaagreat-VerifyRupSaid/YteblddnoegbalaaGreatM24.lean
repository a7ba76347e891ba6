/- My texts Vr9, Cut13, Sub, Stb1, Cut7, Vf6, merged. -/
import Derived.Test.YteblddnoegbalaaGreatM11
import Derived.Test.YteblddnoegbalaaGreatM08
import Derived.Test.YteblddnoegbalaaGreatM07
import Derived.Test.YteblddnoegbalaaGreatM06
import Derived.Test.YteblddnoegbalaaGreatM05
import Derived.Test.YteblddnoegbalaaGreatM04
import Derived.Test.YteblddnoegbalaaGreatM03
import Derived.Test.YteblddnoegbalaaGreatM00
import Derived.Test.YteblddnoegbalaaGreatProg
import Derived.WalkKit
import Derived.Lib.Hide
import Derived.Deep.QuietTactic
import Derived.BigQuiet
import Derived.WalkSpells
import Derived.Lib.SliceRun
import Derived.MapKept
import Derived.Maps.OwnSet
import Derived.Maps.OwnOps
import Derived.Test.YteblddnoegbalaaGreatM02
import Derived.Test.YteblddnoegbalaaGreatM01
import Derived.Deep.AppendLies
import Derived.Lib.Bytealg
import Derived.Deep.DeepCutAuto
import Derived.RangeFuncNested
import Derived.RangeFuncBound
import Derived.RangeFuncCalls
import Derived.RangeFuncLeaves
import Derived.OwnWalkIn
import Derived.TacticsInMore
import Derived.LoopNIn
import Derived.LoopIn
import Derived.Stop.RegionWithIn
import Derived.Shelf.Abstract
import Derived.Sort.QuietThIn
import Derived.RangeFuncBox
import Derived.Maps.OwnIn
import Derived.Lib.SlicesCompact
import Derived.Shelf.Sort.Plain
import Derived.Shelf.Slices.CompactI
import Derived.Shelf.Slices.In.SortNone
import Derived.Shelf.Strconv.Itoa3
import Derived.Shelf.Strings.BuilderK
import Derived.Shelf.Slices.SearchI
import Derived.Shelf.Slices.Empties
import Derived.Sort.OwnSortedInts
import Derived.Lib.RowBridge
import Derived.Test.YteblddnoegbalaaGreatM10
import Derived.Test.YteblddnoegbalaaGreatM09
import Derived.Maps.RangeWalk
import Derived.Deep.OwnRows
import Derived.Test.YteblddnoegbalaaGreatM23
import Derived.Test.YteblddnoegbalaaGreatM22
import Derived.Test.YteblddnoegbalaaGreatM21
import Derived.Test.YteblddnoegbalaaGreatM13
import Derived.Deep.AppendSrc
import Derived.Test.YteblddnoegbalaaGreatM12
import Derived.Laws.EntriesVeiled
import Derived.Lib.AppendZeros
import Derived.Test.YteblddnoegbalaaGreatM14
import Derived.Test.YteblddnoegbalaaGreatM16
import Derived.Test.YteblddnoegbalaaGreatM20
import Derived.Deep.DeepMust
import Derived.Test.YteblddnoegbalaaGreatM19
import Derived.Deep.RegionWith
import Derived.Test.YteblddnoegbalaaGreatM15
import Derived.Deep.LoopGhost
import Derived.Deep.DrawnRows
import Derived.Test.YteblddnoegbalaaGreatM18
import Derived.Test.YteblddnoegbalaaGreatM17
import Derived.ProofKit
import Derived.OpenShut
import Derived.ChangeArms
import Derived.SizedLaws
import Derived.Laws.Cover1

namespace Go.Proofs.YteblddnoegbalaaGreat
theorem normP_okV {L K : List Int} {B : Int} (h : (normP L K B).2 = 0) : pbV (normP L K B).1 = true := normP_valid (L := L) (K := K) (B := B) (by rw [← h])
theorem add_valid {a b : PBC} (h : (addP a b).2 = 0) : pbV (addP a b).1 = true := by
  unfold addP at h ⊢
  split at h
  · next hv =>
    rw [if_pos hv]
    exact normP_okV h
  · exact absurd h (by decide)
theorem mul_valid {a : PBC} {k : Int} (h : (mulP a k).2 = 0) : pbV (mulP a k).1 = true := by
  unfold mulP at h ⊢
  split at h
  · exact absurd h (by decide)
  split at h
  · exact absurd h (by decide)
  next h1 h2 =>
    rw [if_neg h1, if_neg h2]
    exact normP_okV h
theorem div_valid {a : PBC} {k : Int} (h : (divP a k).2 = 0) : pbV (divP a k).1 = true := by
  unfold divP at h ⊢
  split at h
  · exact absurd h (by decide)
  next h1 =>
    rw [if_neg h1]
    exact normP_okV h
theorem weak_valid {a : PBC} {k : Int} (h : (weakP a k).2 = 0) : pbV (weakP a k).1 = true := by
  unfold weakP at h ⊢
  split at h
  · exact absurd h (by decide)
  next h1 =>
    rw [if_neg h1]
    exact normP_okV h
theorem top_valid {f : PBC → Int → PBC × Int} (hf : ∀ a n, (f a n).2 = 0 → pbV (f a n).1 = true) {s : List PBC} {n : Int} (hs : ∀ c ∈ s, pbV c = true) (h : (topP f s n).2 = 0) : ∀ c ∈ (topP f s n).1, pbV c = true := by
  unfold topP at h ⊢
  split at h
  · exact absurd h (by decide)
  next h0 =>
    rw [if_neg h0]
    intro c hc
    rcases List.mem_append.1 hc with hc | hc
    · exact hs c (List.take_subset _ _ hc)
    · rw [List.mem_singleton.1 hc]
      exact hf _ _ h
theorem do_valid {db s : List PBC} {op : OP} (hd : ∀ c ∈ db, pbV c = true) (hs : ∀ c ∈ s, pbV c = true) (h : (doP db op s).2 = 0) : ∀ c ∈ (doP db op s).1, pbV c = true := by
  unfold doP at h ⊢
  by_cases k1 : op.kind = 1
  · rw [if_pos k1] at h ⊢
    split at h
    · exact absurd h (by decide)
    next h0 =>
      rw [if_neg h0]
      intro c hc
      rcases List.mem_append.1 hc with hc | hc
      · exact hs c hc
      · rw [List.mem_singleton.1 hc]
        exact hd _ (ixC_mem (by omega))
  rw [if_neg k1] at h ⊢
  by_cases k2 : op.kind = 2
  · rw [if_pos k2] at h ⊢
    split at h
    · exact absurd h (by decide)
    next h0 =>
      rw [if_neg h0]
      intro c hc
      rcases List.mem_append.1 hc with hc | hc
      · exact hs c (List.take_subset _ _ hc)
      · rw [List.mem_singleton.1 hc]
        exact add_valid h
  rw [if_neg k2] at h ⊢
  by_cases k3 : op.kind = 3
  · rw [if_pos k3] at h ⊢
    exact top_valid (fun _ _ h => mul_valid h) hs h
  rw [if_neg k3] at h ⊢
  by_cases k4 : op.kind = 4
  · rw [if_pos k4] at h ⊢
    exact top_valid (fun _ _ h => div_valid h) hs h
  rw [if_neg k4] at h ⊢
  by_cases k5 : op.kind = 5
  · rw [if_pos k5] at h ⊢
    exact top_valid (fun _ _ h => weak_valid h) hs h
  rw [if_neg k5] at h
  exact absurd h (by decide)
theorem stk_valid {db : List PBC} (hd : ∀ c ∈ db, pbV c = true) : ∀ (ops : List OP) (s : List PBC), (∀ c ∈ s, pbV c = true) → ∀ c ∈ (stkP db ops s).1, pbV c = true
  | [], s, hs => hs
  | op :: ops, s, hs => by
    unfold stkP
    split
    · next h => exact stk_valid hd ops _ (do_valid hd hs h)
    · intro c hc
      cases hc
end Go.Proofs.YteblddnoegbalaaGreat
namespace Go.Proofs.YteblddnoegbalaaGreat
open Go.RowKit
attribute [local go_sem] memUpon
set_option maxHeartbeats 1000000 in
theorem rvalid_any (v : Value) (c : PBC) (w : World) (h : PBIs w v c) :
    Calls Tryz.prog 161 #[v] w fun e w' => e = .returned (.bool (!pbV c)) ∧ Below w.heap.size w w' := by
  have h0 := h
  obtain ⟨vl, vk, rfl, hL, hK, hbd⟩ := h
  obtain ⟨a1, c1, rfl, -⟩ := id hL.form
  obtain ⟨a2, c2, rfl, -⟩ := id hK.form
  have hal := bal (Below.refl w.heap.size w) (.cells #[.slice a1 c.lits.length c1, .slice a2 c.coefs.length c2, .int .i64 c.bound] 25)
  have HP := Lib.hid (h0.below hal)
  have HAL := Lib.hid hal
  clear h0 hL hK hbd hal
  go_enter Tryz.func161, Tryz.ntmps161
  go_wp2_with (go_at_call 30; (with_reducible refine (pbValid_any _ c _ HP.out).mono ?_); rintro e w1 ⟨rfl, hb1⟩; have HB := Lib.hid (bon HAL.out hb1); clear hb1)
  go_ret
  exact ⟨rfl, HB.out⟩
set_option maxHeartbeats 1000000 in
theorem idxP_rval (v : Value) (l : List PBC) (w : World) (h : PBsIs w v l) (g : Nat → Bool) 
    (hg : ∀ w', Below w.heap.size w w' → ∀ j, j < l.length → ∀ u, PBIs w' u (ixC l j) → Calls Tryz.prog 161 #[u] w' fun e w'' => e = .returned (.bool (g j)) ∧ Below w'.heap.size w' w'') :
    Calls Tryz.prog 59 #[v, .func (.func 161) #[] #[]] w fun e w' => ∃ r, e = .returned (.int .i64 r) ∧ IxP l.length g r ∧ Below w.heap.size w w' := by
  obtain ⟨a1, c1, rfl, -, hl1, -, hcell⟩ := h.form
  have HG := Lib.hid hg
  clear h hg
  go_enter Tryz.func59, Tryz.ntmps59
  go_wp2
  go_loopw [8] (fun i wx => IxR l.length g w i wx) (fun i _ => l.length - (intOf i).toNat)
  case atStart => exact ⟨0, by omega, rfl, fun j hj => absurd hj (Nat.not_lt_zero _), Below.refl _ _⟩
  case round =>
    obtain ⟨k, hk, rfl, hall, hb⟩ := hrel
    have HA := Lib.hid hall
    clear hall
    by_cases hlt : k < l.length
    · obtain ⟨b, off, rfl, hbl, hc⟩ := hcell (by omega)
      obtain ⟨vl, vk, ⟨k0, k1, k2⟩, hsl⟩ := hc k hlt
      have hk0 := (bcell hb _ _ hbl).trans k0
      have hk1 := (bcell hb _ _ hbl).trans k1
      have hk2 := (bcell hb _ _ hbl).trans k2
      have HRU : Hid (PBIs wr (.agg #[vl, vk, .int .i64 (ixC l k).bound]) (ixC l k)) := Lib.hid (hsl.below hb).is
      clear hc hcell k0 k1 k2 hsl
      cases g1 : g k with
      | true =>
        have HK : Hid (_ = true) := Lib.hid g1
        have HC := Lib.hid (HG.out _ hb k hlt _ HRU.out)
        rw [g1] at HC
        clear g1
        go_wp2_with (go_at_call 161; refine (HC.out).mono ?_; rintro e w1 ⟨rfl, hb1⟩)
        go_ret
        exact ⟨_, rfl, .inr ⟨k, hlt, rfl, HK.out, HA.out⟩, bon hb hb1⟩
      | false =>
        have HN := Lib.hid (lt_succ_all HA.out g1)
        have HC := Lib.hid (HG.out _ hb k hlt _ HRU.out)
        rw [g1] at HC
        clear g1
        go_wp2_with (go_at_call 161; refine (HC.out).mono ?_; rintro e w1 ⟨rfl, hb1⟩)
        first
          | (go_roundw
             case rel => (exact ⟨k + 1, by omega, by go_num, HN.out, bon hb hb1⟩)
             case measure => (simp [intOf]; omega))
          | (refine ⟨?_, ?_⟩
             · (exact ⟨k + 1, by omega, by go_num, HN.out, bon hb hb1⟩)
             · (simp [intOf]; omega))
    · have HN : Hid (∀ j, j < l.length → g j = false) := Lib.hid (fun j hj => HA.out j (by omega))
      go_wp2
      go_ret
      exact ⟨_, rfl, .inl ⟨rfl, HN.out⟩, hb⟩
set_option maxHeartbeats 1000000 in
theorem ctnP_rval (v : Value) (l : List PBC) (w : World) (h : PBsIs w v l) (g : Nat → Bool) 
    (hg : ∀ w', Below w.heap.size w w' → ∀ j, j < l.length → ∀ u, PBIs w' u (ixC l j) → Calls Tryz.prog 161 #[u] w' fun e w'' => e = .returned (.bool (g j)) ∧ Below w'.heap.size w' w'') :
    Calls Tryz.prog 32 #[v, .func (.func 161) #[] #[]] w fun e w' => e = .returned (.bool (anyR l.length g)) ∧ Below w.heap.size w w' := by
  have HI := Lib.hid (idxP_rval v l w h g  hg)
  obtain ⟨a1, c1, rfl, -⟩ := h.form
  clear h hg
  go_enter Tryz.func32, Tryz.ntmps32
  go_wp2_with (go_at_call 59; refine (HI.out).mono ?_; rintro e w1 ⟨r, rfl, hr, hb1⟩; have HR := Lib.hid hr; clear hr)
  go_ret
  exact ⟨ret_bool HR.out.any, hb1⟩
theorem ctnP_run {v : Value} {db : List PBC} {b : Bool} {w : World} (hb : anyR db.length (fun i => !pbV (ixC db i)) = b) (h : PBsIs w v db) :
    Calls Tryz.prog 32 #[v, .func (.func 161) #[] #[]] w fun e w' => e = .returned (.bool b) ∧ Below w.heap.size w w' := by
  have := ctnP_rval v db w h (fun i => !pbV (ixC db i)) (fun w' hb j hj u hu => rvalid_any u _ w' hu)
  rwa [hb] at this
theorem doP_len {db s : List PBC} {op : OP} (_ : (doP db op s).2 = 0) : (doP db op s).1.length ≤ s.length + 1 := by
  have ht : ∀ (f : PBC → Int → PBC × Int) (n : Int), (topP f s n).1.length ≤ s.length + 1 := fun f n => by
    unfold topP
    split
    · simp
    · simp
      try omega
  unfold doP
  split
  · split <;> simp
  split
  · split
    · simp
    · simp
      try omega
  split
  · exact ht _ _
  split
  · exact ht _ _
  split
  · exact ht _ _
  · simp
theorem drop_ixO {l : List OP} {k : Nat} (h : k < l.length) : l.drop k = ixO l k :: l.drop (k + 1) := by
  rw [List.drop_eq_getElem_cons h]
  congr 1
  simp [ixO, List.getD_eq_getElem?_getD, List.getElem?_eq_getElem h]
def RunR (w0 : World) (db : List PBC) (ops : List OP) (sb : Nat) (i : Value) (w : World) : Prop :=
  ∃ k : Nat, k ≤ ops.length ∧ i = .int .i64 (k : Int) ∧ ∃ s, Stk w0 db sb s w ∧ s.length ≤ k ∧ stkP db (ops.drop k) s = stkP db ops []
def cl2Φ (B i1 i2 : Nat) (L K : List Int) (i : Nat) (_ : List Value) (v : Value) (_ _ : Nat) (w : World) : Prop :=
  (i = i1 ∧ (∃ a c, v = .slice a L.length c) ∧ QRow B w v L) ∨ (i = i2 ∧ (∃ a c, v = .slice a K.length c) ∧ QRow B w v K)
theorem cl2Φ_later (B i1 i2 : Nat) (L K : List Int) : ∀ i args v lo hi w w', cl2Φ B i1 i2 L K i args v lo hi w → Below w.heap.size w w' → cl2Φ B i1 i2 L K i args v lo hi w' := fun _ _ _ _ _ _ _ h hb => by
  rcases h with ⟨e, h1, h2⟩ | ⟨e, h1, h2⟩
  · exact .inl ⟨e, h1, h2.below hb⟩
  · exact .inr ⟨e, h1, h2.below hb⟩
theorem clone_sc {B : Nat} {v : Value} {l : List Int} {w : World} (h : Ints w v l) (hB : B ≤ w.heap.size) :
    Calls Tryz.prog 88 #[v] w fun e w' => ∃ v, e = .returned v ∧ Below w.heap.size w w' ∧ (∃ a c, v = .slice a l.length c) ∧ QRow B w' v l :=
  (cloneQ_any v l w h).mono fun _ _ ⟨v, h3, h4, h5⟩ => ⟨v, h3, h5, h4.slen, h4.mono hB⟩
set_option maxHeartbeats 8000000 in
set_option maxRecDepth 100000 in
theorem crun_any (v vdb : Value) (ops : List OP) (db : List PBC) (w : World) (h : OpsIs w v ops) (hd : PBsIs w vdb db) :
    Calls Tryz.prog 115 #[v, vdb] w (CuOut w (runP ops db)) := by
  obtain ⟨a1, c1, rfl, -, hl1, hO, hcell⟩ := h.form
  obtain ⟨a2, c2, rfl, -, hl2, -⟩ := hd.form
  have hal := bal (Below.refl w.heap.size w) (.cells #[.slice none 0 0, .slice none 0 0, .int .i64 0] 25)
  have HD := Lib.hid (hd.below hal)
  have HB0 := Lib.hid hal
  have HR0 := Lib.hid (Blk.new w [.slice none 0 0, .slice none 0 0, .int .i64 0] 25)
  have HC := Lib.hid hcell
  have HOI := Lib.hid hO.2
  clear h hd hal hO hcell
  go_enter Tryz.func115, Tryz.ntmps115
  go_upto_region 1 with fail
  generalize hw0 : w.alloc (.cells #[.slice none 0 0, .slice none 0 0, .int .i64 0] 25) = W0 at *
  clear hw0
  have kr0 := HR0.out.cell
  have fr0 := HR0.out.free
  by_cases hlen : 1000 < ops.length
  · have HF : Hid (runP ops db = (zeroC, 2)) := Lib.hid (by unfold runP; rw [if_pos (.inl hlen)])
    have hlen' : (1000 : Int) < ops.length := by omega
    clear hlen
    go_wp2
    refine bodyPost_ret (v := .tuple #[.agg #[.slice none 0 0, .slice none 0 0, .int .i64 0], .int .i64 2]) (by have kz := ((HR0.out.set 0 (.slice none 0 0)).set 1 (.slice none 0 0)).set 2 (.int .i64 0); have kz2 := kz.cell; simp only [List.set_cons_zero, List.set_cons_succ] at kz2; simp [results, Tryz.f115, go_sem, kz2]) rfl ?_
    rw [HF.out]
    exact CuOut.err HB0.out (Nat.le_refl _)
  have hlen' : ¬ (1000 : Int) < ops.length := by omega
  cases hv : anyR db.length (fun i => !pbV (ixC db i)) with
  | true =>
    have HV := Lib.hid hv
    have HF : Hid (runP ops db = (zeroC, 2)) := Lib.hid (by unfold runP; rw [if_pos (.inr (by rw [all_anyR, hv]; rfl))])
    clear hv
    go_wp2_with (go_at_call 32; (with_reducible refine (ctnP_run HV.out HD.out).mono ?_); rintro e w1 ⟨rfl, hb1⟩; have HB1 := Lib.hid (bon HB0.out hb1); have HR1 := Lib.hid (HR0.out.below hb1); have kr1 := HR1.out.cell; have fr1 := HR1.out.free; clear hb1)
    refine bodyPost_ret (v := .tuple #[.agg #[.slice none 0 0, .slice none 0 0, .int .i64 0], .int .i64 2]) (by have kz := ((HR1.out.set 0 (.slice none 0 0)).set 1 (.slice none 0 0)).set 2 (.int .i64 0); have kz2 := kz.cell; simp only [List.set_cons_zero, List.set_cons_succ] at kz2; simp [results, Tryz.f115, go_sem, kz2]) rfl ?_
    rw [HF.out]
    exact CuOut.err HB1.out (Nat.le_refl _)
  | false =>
    have HV := Lib.hid hv
    have HRP : Hid (runP ops db = if (stkP db ops []).2 ≠ 0 then (zeroC, (stkP db ops []).2) else if (stkP db ops []).1.length ≠ 1 then (zeroC, 2) else (ixC (stkP db ops []).1 0, 0)) := Lib.hid (by
      unfold runP
      rw [if_neg (by rw [all_anyR, hv]; simp; omega)])
    have hlen2 : ops.length ≤ 1000 := by omega
    clear hv hlen
    go_upto_region 4 with (go_at_call 32; (with_reducible refine (ctnP_run HV.out HD.out).mono ?_); rintro e w1 ⟨rfl, hb1⟩; have HB1 := Lib.hid (bon HB0.out hb1); have HR1 := Lib.hid (HR0.out.below hb1); have HD1 := Lib.hid (HD.out.below hb1); have kr1 := HR1.out.cell; have fr1 := HR1.out.free; clear hb1)
    have hal := bal (Below.refl w1.heap.size w1) (.cells #[.slice none 0 0, .slice a2 db.length c2] 196)
    have HS0 : Hid (Stk w1 db w1.heap.size [] (w1.alloc (.cells #[.slice none 0 0, .slice a2 db.length c2] 196))) := Lib.hid ⟨_, _, [], ⟨Blk.new _ _ _, (RowP.nil w1 w1).below hal, HD1.out, hal, Nat.le_refl _⟩, rfl⟩
    generalize w1.alloc (.cells #[.slice none 0 0, .slice a2 db.length c2] 196) = w2 at *
    clear hal kr0 fr0 kr1 fr1
    go_wp2
    go_loopw [23] (fun i wx => RunR w1 db ops w1.heap.size i wx) (fun i _ => ops.length - (intOf i).toNat)
    case atStart => exact ⟨0, Nat.zero_le _, rfl, [], HS0.out, Nat.le_refl _, rfl⟩
    case round =>
      obtain ⟨k, hk, rfl, s, hs, hsl, hst⟩ := hrel
      have HS := Lib.hid hs
      have HST := Lib.hid hst
      have HSL := Lib.hid hsl
      have hbw : Below w1.heap.size w1 wr := by obtain ⟨_, _, _, h, -⟩ := hs; exact h.below
      have HBW := Lib.hid hbw
      have hRR := HR1.out.below hbw
      have HRR := Lib.hid hRR
      clear hs hst hsl hRR HS0
      by_cases hlt : k < ops.length
      · obtain ⟨b, off, rfl, hbl, hc⟩ := HC.out (by omega)
        have hbl1 : b < w1.heap.size := Nat.lt_of_lt_of_le hbl (by have := HB1.out.size; omega)
        obtain ⟨k0, k1⟩ := hc k hlt
        have kk0 := (bcell (bon HB1.out hbw) b _ hbl).trans k0
        have kk1 := (bcell (bon HB1.out hbw) b _ hbl).trans k1
        have hal := bal (Below.refl wr.heap.size wr) (.cells #[.int .u8 (ixO ops k).kind, .int .i64 (ixO ops k).n] 64)
        have HSA : Hid (Stk w1 db w1.heap.size s (wr.alloc (.cells #[.int .u8 (ixO ops k).kind, .int .i64 (ixO ops k).n] 64))) := Lib.hid (by obtain ⟨v, vd, L, h1, h2⟩ := HS.out; exact ⟨v, vd, L, h1.on hal, h2⟩)
        obtain ⟨D, hD⟩ : ∃ D, doP db (ixO ops k) s = D := ⟨_, rfl⟩
        have HCON := Lib.hid (sdo_any HSA.out (HOI.out _ (ixO_mem hlt)) (by have := HSL.out; omega))
        rw [hD] at HCON
        have HDD := Lib.hid hD
        have HSTK : Hid (stkP db ops [] = if D.2 = 0 then stkP db (ops.drop (k + 1)) D.1 else ([], D.2)) := Lib.hid (by rw [← HST.out, drop_ixO hlt]; show (if (doP db (ixO ops k) s).2 = 0 then stkP db (ops.drop (k + 1)) (doP db (ixO ops k) s).1 else ([], (doP db (ixO ops k) s).2)) = _; rw [hD])
        clear hc k0 k1 hbw hal hD HC
        by_cases hE : D.2 = 0
        · have hen : (D.2 != 0) = false := by simp [hE]
          have HE := Lib.hid hE
          clear hE
          go_wp2_with (go_at_call 162; (with_reducible refine (HCON.out).mono ?_); rintro e w7 ⟨rfl, hb7, hs7⟩; have HS7 := Lib.hid (hs7 HE.out); clear hb7 hs7)
          first
            | (go_roundw
               case rel => (exact ⟨k + 1, hlt, by go_num, D.1, HS7.out, by (have h5 := doP_len (db := db) (s := s) (op := ixO ops k) (by rw [HDD.out]; exact HE.out); rw [HDD.out] at h5; have := HSL.out; omega), by rw [HSTK.out, if_pos HE.out]⟩)
               case measure => (simp [intOf]; omega))
            | (refine ⟨?_, ?_⟩
               · (exact ⟨k + 1, hlt, by go_num, D.1, HS7.out, by (have h5 := doP_len (db := db) (s := s) (op := ixO ops k) (by rw [HDD.out]; exact HE.out); rw [HDD.out] at h5; have := HSL.out; omega), by rw [HSTK.out, if_pos HE.out]⟩)
               · (simp [intOf]; omega))
        · have hen : (D.2 != 0) = true := by simp [hE]
          have HF : Hid (runP ops db = (zeroC, D.2)) := Lib.hid (by rw [HRP.out, HSTK.out, if_neg hE, if_pos hE])
          clear hE
          go_wp2_with (go_at_call 162; (with_reducible refine (HCON.out).mono ?_); rintro e w7 ⟨rfl, hb7, hs7⟩; have HR7 := Lib.hid (HR1.out.below hb7); have HB7 := Lib.hid (bon HB1.out hb7); have kr7 := HR7.out.cell; have fr7 := HR7.out.free; clear hb7 hs7)
          refine bodyPost_ret (v := .tuple #[.agg #[.slice none 0 0, .slice none 0 0, .int .i64 0], .int .i64 D.2]) (by have kz := ((HR7.out.set 0 (.slice none 0 0)).set 1 (.slice none 0 0)).set 2 (.int .i64 0); have kz2 := kz.cell; simp only [List.set_cons_zero, List.set_cons_succ] at kz2; simp [results, Tryz.f115, go_sem, kz2]) rfl ?_
          rw [HF.out]
          exact CuOut.err HB7.out (Nat.le_refl _)
      · obtain rfl : k = ops.length := by omega
        have HFIN : Hid (stkP db ops [] = (s, 0)) := Lib.hid (by rw [← HST.out, List.drop_length]; rfl)
        obtain ⟨v, vd, L, hst, hLs⟩ := HS.out
        obtain ⟨a3, c3, rfl⟩ := hst.row.slen
        have HT := Lib.hid hst
        have ks := hst.box.cell
        have zs := hst.box.lt
        have kr7 := HRR.out.cell
        have fr7 := HRR.out.free
        have hLl : L.length = s.length := by rw [← hLs]; simp
        have hsl2 := HSL.out
        have hbw0 := bon HB1.out hbw
        by_cases h1 : s.length = 1
        · have hL1 : L.length = 1 := by omega
          obtain ⟨g, cap, vl, vk, e1, hg, hgl, hne, -, hc0, hc1, hc2, hpb⟩ := hst.elem (k := 0) (by omega)
          simp only [Value.slice.injEq, true_and] at e1
          obtain ⟨rfl, rfl⟩ := e1
          obtain ⟨c, hc⟩ : ∃ c, ixC s 0 = c := ⟨_, rfl⟩
          rw [hLs, hc] at hc2 hpb
          have HF : Hid (runP ops db = (c, 0)) := Lib.hid (by rw [HRP.out, HFIN.out, if_neg (by simp), if_neg (by simp [h1]), hc])
          have HPB := Lib.hid hpb
          have HBW0 := Lib.hid hbw0
          have hLn : ((L.length : Int) != 1) = false := by simp; omega
          have ex1 : ∀ e : Ext wr, ∀ o, e.world.cell? ⟨w1.heap.size, o, none⟩ = _ := fun e o => (bcell e.below _ o zs).trans (ks o)
          have ex3 : ∀ e : Ext wr, e.world.cell? ⟨g, 0, none⟩ = some vl := fun e => (bcell e.below _ _ hgl).trans hc0
          have ex4 : ∀ e : Ext wr, e.world.cell? ⟨g, 1, none⟩ = some vk := fun e => (bcell e.below _ _ hgl).trans hc1
          have ex5 : ∀ e : Ext wr, e.world.cell? ⟨g, 2, none⟩ = some (.int .i64 c.bound) := fun e => (bcell e.below _ _ hgl).trans hc2
          have hcb : InI c.bound := by obtain ⟨_, _, -, -, -, h⟩ := hpb; exact h
          obtain ⟨hIL, hIK⟩ : Ints wr vl c.lits ∧ Ints wr vk c.coefs := by
            obtain ⟨_, _, e, h1, h2, -⟩ := hpb
            simp only [Value.agg.injEq, Array.mk.injEq, List.cons.injEq, and_true] at e
            obtain ⟨rfl, rfl⟩ := e
            exact ⟨h1, h2⟩
          have HIL := Lib.hid hIL
          have HIK := Lib.hid hIK
          have HCB := Lib.hid hcb
          have HLC : Hid (c.lits.length ≤ 65536 ∧ c.coefs.length ≤ 65536) := Lib.hid (by
            have hall : ∀ d ∈ db, pbV d = true := fun d hd => List.all_eq_true.1 (show db.all pbV = true by rw [all_anyR, HV.out]; rfl) d hd
            have h5 := stk_valid hall ops [] (fun _ h => absurd h List.not_mem_nil)
            rw [HFIN.out] at h5
            have h6 := pbV_parts (h5 c (show c ∈ s by rw [← hc]; exact ixC_mem (by omega)))
            omega)
          go_upto_region 13 with fail
          rw [hL1] at ex1
          have zr := HRR.out.lt
          clear ks zs kr7 fr7 hbw0 hbw hst hpb hIL hIK hcb hc hc0 hc1 hc2 hLl hLs HS
          refine wp_region_tail' 24 (fun _ => True) (cl2Φ wr.heap.size 7 15 c.lits c.coefs) (fun i => i == 7 || i == 15) (by kernel_rfl) (by kernel_rfl) (by kernel_rfl) (fun _ _ => trivial) (cl2Φ_later _ _ _ _ _) ?_
          simp only [List.take_succ_cons, List.take_zero, List.drop_succ_cons, List.drop_zero]
          iterate 7 (refine walkP_head (by kernel_rfl) rfl rfl rfl (fun K hK => ?_); go_big_quiet_op; refine hK _ ?_; clear hK K)
          refine walkP_mem rfl rfl (fun wa hba hFa => ?_) (fun v7 lo7 hi7 l7 g7 h7 => ?_)
          · go_simp
            exact (clone_sc (HIL.out.below hba) hba.size).mono fun e w2 ⟨v, h1, h2, h3, h4⟩ => ⟨v, h1, h2, .inl ⟨rfl, h3, h4⟩⟩
          obtain ⟨a7, c7, rfl⟩ : ∃ a c', v7 = .slice a c.lits.length c' := by
            obtain ⟨_, h⟩ := h7
            rcases h with ⟨-, h, -⟩ | ⟨h, -⟩
            · exact h
            · exact absurd h (by decide)
          clear h7
          simp only [Act.put, List.setIfInBounds_toArray, List.set_cons_succ, List.set_cons_zero]
          iterate 7 (refine walkP_head (by kernel_rfl) rfl rfl rfl (fun K hK => ?_); go_big_quiet_op; refine hK _ ?_; clear hK K)
          refine walkP_mem rfl rfl (fun wa hba hFa => ?_) (fun v8 lo8 hi8 l8 g8 h8 => ?_)
          · go_simp
            exact (clone_sc (HIK.out.below hba) hba.size).mono fun e w2 ⟨v, h1, h2, h3, h4⟩ => ⟨v, h1, h2, .inr ⟨rfl, h3, h4⟩⟩
          obtain ⟨a8, c8, rfl⟩ : ∃ a c', v8 = .slice a c.coefs.length c' := by
            obtain ⟨_, h⟩ := h8
            rcases h with ⟨h, -⟩ | ⟨-, h, -⟩
            · exact absurd h (by decide)
            · exact h
          clear h8
          simp only [Act.put, List.setIfInBounds_toArray, List.set_cons_succ, List.set_cons_zero]
          iterate 8 (refine walkP_head (by kernel_rfl) rfl rfl rfl (fun K hK => ?_); go_big_quiet_op; refine hK _ ?_; clear hK K)
          intro wx hbx hF hI hP
          have f2 : QRow wr.heap.size wx (.slice a8 c.coefs.length c8) c.coefs := by
            rcases hF _ (.head _) with ⟨e, -⟩ | ⟨-, -, h⟩
            · exact absurd e (by decide)
            · exact h
          have f1 : QRow wr.heap.size wx (.slice a7 c.lits.length c7) c.lits := by
            rcases hF _ (.tail _ (.head _)) with ⟨-, -, h⟩ | ⟨e, -⟩
            · exact h
            · exact absurd e (by decide)
          have HRX := Lib.hid (HRR.out.below hbx)
          have HBX := Lib.hid (bon HBW0.out hbx)
          have kf := HRX.out.free
          have kc := HRX.out.cell
          have HQ1 := Lib.hid f1
          have HQ2 := Lib.hid f2
          clear hF hI hP hbx f1 f2 ex1 ex3 ex4 ex5
          iterate 2 (refine ⟨rfl, rfl, ?_⟩; go_simp)
          simp only [tailW]
          clear kf kc
          have kz := ((HRX.out.set 0 (.slice a7 c.lits.length c7)).set 1 (.slice a8 c.coefs.length c8)).set 2 (.int .i64 c.bound)
          have kz2 := kz.cell
          simp only [List.set_cons_zero, List.set_cons_succ] at kz2
          go_wp2_with fail
          refine bodyPost_ret (v := .tuple #[.agg #[.slice a7 c.lits.length c7, .slice a8 c.coefs.length c8, .int .i64 c.bound], .int .i64 0]) (by simp [results, Tryz.f115, go_sem, kz2]) rfl ?_
          rw [HF.out]
          exact CuOut.ok (r := (c, 0)) HBX.out (Nat.le_refl _) zr HQ1.out HQ2.out HCB.out HLC.out.1 HLC.out.2
        · have HF : Hid (runP ops db = (zeroC, 2)) := Lib.hid (by rw [HRP.out, HFIN.out, if_neg (by simp), if_pos h1])
          have hLn : ((L.length : Int) != 1) = true := by simp; omega
          have HBW0 := Lib.hid hbw0
          clear hst hLs hbw hbw0
          go_wp2
          refine bodyPost_ret (v := .tuple #[.agg #[.slice none 0 0, .slice none 0 0, .int .i64 0], .int .i64 2]) (by have kz := ((HRR.out.set 0 (.slice none 0 0)).set 1 (.slice none 0 0)).set 2 (.int .i64 0); have kz2 := kz.cell; simp only [List.set_cons_zero, List.set_cons_succ] at kz2; simp [results, Tryz.f115, go_sem, kz2]) rfl ?_
          rw [HF.out]
          exact CuOut.err HBW0.out (Nat.le_refl _)
end Go.Proofs.YteblddnoegbalaaGreat
namespace Go.Proofs.YteblddnoegbalaaGreat
open Go.RowKit
def SubRel (n : Int) (w0 : World) (v i : Value) (wx : World) : Prop :=
  ∃ k : Nat, (k : Int) ≤ n ∧ i = .int .i64 ((k : Int) + 1) ∧ ∃ l, QRow w0.heap.size wx v l ∧ l.length ≤ k ∧ (∀ x ∈ l, 1 ≤ x ∧ x ≤ k) ∧ Hid (l.Pairwise (· < ·)) ∧ Below w0.heap.size w0 wx
theorem SubRel.push {k : Nat} {l : List Int} {v : Value} {w0 w1 w4 : World} (hq : QRow w0.heap.size w1 v l) (hb : Below w0.heap.size w0 w1)
    (hg : (w1.alloc (.cells #[.int .i64 ((k : Int) + 1)] 3)).grownBy w4 v.ownBlock) : Below w0.heap.size w0 w4 := by
  have hf : ∀ i, v.ownBlock = some i → w0.heap.size ≤ i := fun i e => by
    rcases hq.2 with ⟨rfl, _⟩ | ⟨g, off, cap, cur, rfl, hbg, _⟩
    · cases e
    · simp only [Value.ownBlock, Option.some.injEq] at e; omega
  have hsz := hg.size
  simp at hsz
  have hbs := hb.size
  have hk : ∀ i, i < w0.heap.size → w4.heap[i]? = w1.heap[i]? := fun i hi => (hg.block i (by simp; omega) (fun e => by have := hf i e.symm; omega)).trans (Below.heap_alloc _ _ _ (by omega))
  exact hb.trans ⟨hg.os, hg.tape, hg.output, by omega, fun i hi => hk i hi⟩
theorem SubRel.mem {k : Nat} {l : List Int} (h : ∀ x ∈ l, 1 ≤ x ∧ x ≤ k) : ∀ x ∈ l ++ [(k : Int) + 1], 1 ≤ x ∧ x ≤ ((k + 1 : Nat) : Int) := fun x hx => by
  rcases List.mem_append.1 hx with h1 | h1
  · have := h x h1; omega
  · rw [List.mem_singleton] at h1; omega
theorem SubRel.sorted {k : Nat} {l : List Int} (h : ∀ x ∈ l, 1 ≤ x ∧ x ≤ k) (hs : Hid (l.Pairwise (· < ·))) : Hid ((l ++ [(k : Int) + 1]).Pairwise (· < ·)) :=
  Lib.hid (List.pairwise_append.2 ⟨hs.out, List.pairwise_singleton _ _, fun x hx y hy => by rw [List.mem_singleton] at hy; have := h x hx; omega⟩)
set_option maxHeartbeats 1000000 in
theorem sEqual_any (v1 v2 : Value) (l1 l2 : List Int) (w : World) (h1 : Ints w v1 l1) (h2 : Ints w v2 l2) :
    Calls Tryz.prog 96 #[v1, v2] w fun e w' => e = .returned (.bool (decide (l1 = l2))) ∧ Below w.heap.size w w' := by
  have i1 := h1
  have i2 := h2
  obtain ⟨a1, c1, rfl, -, hl1, -, hc1⟩ := h1.form
  obtain ⟨a2, c2, rfl, -, hl2, -, hc2⟩ := h2.form
  clear h1 h2
  by_cases hlen : l1.length = l2.length
  · have hb0 : ((l1.length : Int) != (l2.length : Int)) = false := by simp [hlen]
    have HL := Lib.hid hlen
    have F1 := Lib.hid i1.2
    have F2 := Lib.hid i2.2
    clear hlen i1 i2
    go_enter Tryz.func96, Tryz.ntmps96
    go_wp2
    go_loopw [13] (fun i wx => IntsRel l1 l2 w i wx) (fun i _ => l1.length - (intOf i).toNat)
    case atStart => exact ⟨0, by omega, rfl, fun j hj => absurd hj (Nat.not_lt_zero _), Below.refl _ _⟩
    case round =>
      obtain ⟨k, hk, rfl, hall, hb⟩ := hrel
      have HA := Lib.hid hall
      clear hall
      by_cases hlt : k < l1.length
      · obtain ⟨b1, off1, rfl, hbl1, hcc1⟩ := hc1 (by omega)
        obtain ⟨b2, off2, rfl, hbl2, hcc2⟩ := hc2 (by have := HL.out; omega)
        have hlt2 : k < l2.length := by have := HL.out; omega
        have hlr1 : b1 < wr.heap.size := Nat.lt_of_lt_of_le hbl1 hb.size
        have hlr2 : b2 < wr.heap.size := Nat.lt_of_lt_of_le hbl2 hb.size
        have k1 : ∀ e : Ext wr, e.world.cell? ⟨b1, off1 + k, none⟩ = some (.int .i64 (ix l1 k)) := fun e => (bcell e.below _ _ hlr1).trans ((bcell hb _ _ hbl1).trans (hcc1 k hlt))
        have k2 : ∀ e : Ext wr, e.world.cell? ⟨b2, off2 + k, none⟩ = some (.int .i64 (ix l2 k)) := fun e => (bcell e.below _ _ hlr2).trans ((bcell hb _ _ hbl2).trans (hcc2 k hlt2))
        have f1 := F1.out k
        have f2 := F2.out k
        clear hcc1 hcc2 hc1 hc2
        by_cases he : ix l1 k = ix l2 k
        · have HN := Lib.hid (lt_succ_all HA.out he)
          have he' : (ix l1 k != ix l2 k) = false := by simp [he]
          clear he
          go_wp2
          refine wp_region_ext (by kernel_rfl) (by kernel_rfl) ?_
          repeat (go_big_quiet_step (fail))
          refine wpQuiet_nil ?_
          intro _ hw'
          obtain ⟨⟨w9, hb9⟩, rfl⟩ := hw'
          try dsimp only
          go_wp2
          first
            | (go_roundw
               case rel => (exact ⟨k + 1, by omega, by go_num, HN.out, bon hb hb9⟩)
               case measure => (simp [intOf]; omega))
            | (refine ⟨?_, ?_⟩
               · (exact ⟨k + 1, by omega, by go_num, HN.out, bon hb hb9⟩)
               · (simp [intOf]; omega))
        · have HF : Hid (decide (l1 = l2) = false) := Lib.hid (decide_eq_false (fun e => he (by rw [e])))
          have he' : (ix l1 k != ix l2 k) = true := by simp [he]
          clear he
          go_wp2
          refine wp_region_ext (by kernel_rfl) (by kernel_rfl) ?_
          repeat (go_big_quiet_step (fail))
          refine wpQuiet_nil ?_
          intro _ hw'
          obtain ⟨⟨w9, hb9⟩, rfl⟩ := hw'
          try dsimp only
          go_wp2
          go_ret
          exact ⟨ret_bool HF.out.symm, bon hb hb9⟩
      · have HF : Hid (decide (l1 = l2) = true) := Lib.hid (decide_eq_true (eq_of_ix HL.out (fun j hj => HA.out j (by omega))))
        go_wp2
        go_ret
        exact ⟨ret_bool HF.out.symm, hb⟩
  · have HF : Hid (decide (l1 = l2) = false) := Lib.hid (decide_eq_false (fun e => hlen (by rw [e])))
    have hb0 : ((l1.length : Int) != (l2.length : Int)) = true := by simp; omega
    clear hlen i1 i2
    go_enter Tryz.func96, Tryz.ntmps96
    go_wp2
    go_ret
    exact ⟨ret_bool HF.out.symm, Below.refl _ _⟩
theorem pbc_eq36 {c d : PBC} : (c = d) ↔ (c.bound = d.bound ∧ c.lits = d.lits ∧ c.coefs = d.coefs) := by
  cases c; cases d; simp; constructor
  · rintro ⟨h1, h2, h3⟩; exact ⟨h3, h1, h2⟩
  · rintro ⟨h1, h2, h3⟩; exact ⟨h2, h3, h1⟩
set_option maxHeartbeats 4000000 in
set_option maxRecDepth 100000 in
theorem pEqual_any (v u : Value) (c d : PBC) (w : World) (h : PBIs w v c) (h2 : PBIs w u d) :
    Calls Tryz.prog 116 #[v, u] w fun e w' => e = .returned (.bool (decide (c = d))) ∧ Below w.heap.size w w' := by
  obtain ⟨vl, vk, rfl, hL, hK, hbd⟩ := h
  obtain ⟨a1, c1, rfl, -⟩ := id hL.form
  obtain ⟨a2, c2, rfl, -⟩ := id hK.form
  obtain ⟨ul, uk, rfl, hL2, hK2, hbd2⟩ := h2
  obtain ⟨a3, c3, rfl, -⟩ := id hL2.form
  obtain ⟨a4, c4, rfl, -⟩ := id hK2.form
  have hb0 := bal (bal (Below.refl w.heap.size w) (.cells #[.slice a1 c.lits.length c1, .slice a2 c.coefs.length c2, .int .i64 c.bound] 25)) (.cells #[.slice a3 d.lits.length c3, .slice a4 d.coefs.length c4, .int .i64 d.bound] 25)
  have HB := Lib.hid hb0
  have H1 := Lib.hid (hL.below hb0)
  have H2 := Lib.hid (hL2.below hb0)
  have H3 := Lib.hid (hK.below hb0)
  have H4 := Lib.hid (hK2.below hb0)
  have HX : Hid (Blk ((w.alloc (.cells #[.slice a1 c.lits.length c1, .slice a2 c.coefs.length c2, .int .i64 c.bound] 25)).alloc (.cells #[.slice a3 d.lits.length c3, .slice a4 d.coefs.length c4, .int .i64 d.bound] 25)) w.heap.size [.slice a1 c.lits.length c1, .slice a2 c.coefs.length c2, .int .i64 c.bound] 25) := Lib.hid (by repeat first | (refine Blk.newAt _ _ _ ?_; first | rfl | (simp only [World.size_alloc]; done) | (simp only [World.size_alloc]; omega)) | refine Blk.alloc ?_ _)
  have HY : Hid (Blk ((w.alloc (.cells #[.slice a1 c.lits.length c1, .slice a2 c.coefs.length c2, .int .i64 c.bound] 25)).alloc (.cells #[.slice a3 d.lits.length c3, .slice a4 d.coefs.length c4, .int .i64 d.bound] 25)) (w.heap.size + 1) [.slice a3 d.lits.length c3, .slice a4 d.coefs.length c4, .int .i64 d.bound] 25) := Lib.hid (by repeat first | (refine Blk.newAt _ _ _ ?_; first | rfl | (simp only [World.size_alloc]; done) | (simp only [World.size_alloc]; omega)) | refine Blk.alloc ?_ _)
  have kx := HX.out.cell
  have ky := HY.out.cell
  clear hL hK hL2 hK2 hb0 hbd hbd2
  by_cases e1 : c.bound = d.bound
  · by_cases e2 : c.lits = d.lits
    · have HA : Hid (decide (c.lits = d.lits) = true) := Lib.hid (decide_eq_true e2)
      have HF : Hid (decide (c = d) = decide (c.coefs = d.coefs)) := Lib.hid (decide_eq_decide.2 ⟨fun h => (pbc_eq36.1 h).2.2, fun h => pbc_eq36.2 ⟨e1, e2, h⟩⟩)
      have HE1 := Lib.hid e1
      have be : (c.bound == d.bound) = true := by simp [e1]
      clear e1 e2
      go_enter Tryz.func116, Tryz.ntmps116
      go_wp2_with (first | (go_at_call 96; (with_reducible refine (sEqual_any _ _ c.lits d.lits _ H1.out H2.out).mono ?_); rintro e w5 ⟨ev, hb5⟩; rw [HA.out] at ev; subst ev; have HB5 := Lib.hid (bon HB.out hb5); have kb0 := (HX.out.below hb5).cell; have kb1 := (HY.out.below hb5).cell; have H35 := Lib.hid (H3.out.below hb5); have H45 := Lib.hid (H4.out.below hb5); clear hb5) | (go_at_call 96; (with_reducible refine (sEqual_any _ _ c.coefs d.coefs _ H35.out H45.out).mono ?_); rintro e w6 ⟨rfl, hb6⟩; have HB6 := Lib.hid (bon HB5.out hb6); clear hb6))
      go_ret
      exact ⟨ret_bool HF.out.symm, HB6.out⟩
    · have HA : Hid (decide (c.lits = d.lits) = false) := Lib.hid (decide_eq_false e2)
      have HF : Hid (decide (c = d) = false) := Lib.hid (decide_eq_false fun h => e2 (pbc_eq36.1 h).2.1)
      have be : (c.bound == d.bound) = true := by simp [e1]
      clear e1 e2
      go_enter Tryz.func116, Tryz.ntmps116
      go_wp2_with (go_at_call 96; (with_reducible refine (sEqual_any _ _ c.lits d.lits _ H1.out H2.out).mono ?_); rintro e w5 ⟨ev, hb5⟩; rw [HA.out] at ev; subst ev; have HB5 := Lib.hid (bon HB.out hb5); have kb0 := (HX.out.below hb5).cell; have kb1 := (HY.out.below hb5).cell; have H35 := Lib.hid (H3.out.below hb5); have H45 := Lib.hid (H4.out.below hb5); clear hb5)
      go_ret
      exact ⟨ret_bool HF.out.symm, HB5.out⟩
  · have HF : Hid (decide (c = d) = false) := Lib.hid (decide_eq_false fun h => e1 (pbc_eq36.1 h).1)
    have be : (c.bound == d.bound) = false := by simp [e1]
    clear e1
    go_enter Tryz.func116, Tryz.ntmps116
    go_wp2
    go_ret
    exact ⟨ret_bool HF.out.symm, HB.out⟩
attribute [local go_sem] memUpon
structure SBx (s : ST) (vl vk vs vo : Value) (b : Nat) (W : World) : Prop where
  box : Blk W b [.int .u8 s.kind, vl, vk, .int .i64 s.c.bound, vs, vo] 41
  pb : PBIs W (.agg #[vl, vk, .int .i64 s.c.bound]) s.c
  set : Ints W vs s.set
  ops : OpsIs W vo s.ops
theorem SBx.on {s : ST} {vl vk vs vo : Value} {b : Nat} {W W' : World} (h : SBx s vl vk vs vo b W) (hb : Below W.heap.size W W') : SBx s vl vk vs vo b W' := ⟨h.box.below hb, h.pb.below hb, h.set.below hb, h.ops.below hb⟩
theorem SBx.new {W : World} {s : ST} {vl vk vs vo : Value} (h : STSl W s vl vk vs vo) : SBx s vl vk vs vo W.heap.size (W.alloc (.cells #[.int .u8 s.kind, vl, vk, .int .i64 s.c.bound, vs, vo] 41)) :=
  have hal := bal (Below.refl W.heap.size W) _
  ⟨Blk.new _ _ _, h.pb.is.below hal, h.set.below hal, h.ops.below hal⟩
def oneΦ (i0 : Nat) (b : Value) (i : Nat) (_ : List Value) (v : Value) (_ _ : Nat) (_ : World) : Prop := i = i0 ∧ v = b
theorem oneΦ_later (i0 : Nat) (b : Value) : ∀ i args v lo hi w w', oneΦ i0 b i args v lo hi w → Below w.heap.size w w' → oneΦ i0 b i args v lo hi w' := fun _ _ _ _ _ _ _ h _ => h
set_option maxHeartbeats 4000000 in
set_option maxRecDepth 100000 in
theorem krup_any {w0 W : World} {p : GP} {kb : Nat} {vn vs vr vm v : Value} {L : List CQ} (h : KSt w0 p kb vn vs vr vm v L W) (hl : L.length ≤ 800000) (u : Value) (s : ST) (hs : STIs W u s) :
    Calls Tryz.prog 75 #[.pointer (some ⟨kb, 0, none⟩), u] W fun e w' => e = .returned (.bool (decide (s.set.length + s.ops.length = 0) && rupB (L.map (·.1)) s.c)) ∧ Below W.heap.size W w' := by
  obtain ⟨vl, vk, vs, vo, rfl, hsl⟩ := hs
  obtain ⟨a2, c2, rfl, -⟩ := hsl.pb.lits.form
  obtain ⟨a3, c3, rfl, -⟩ := hsl.pb.coefs.form
  obtain ⟨a4, c4, rfl, -, hl4, -⟩ := hsl.set.form
  obtain ⟨a5, c5, rfl, -, hl5, -⟩ := hsl.ops.form
  have hal := bal (Below.refl W.heap.size W) (.cells #[.int .u8 s.kind, .slice a2 s.c.lits.length c2, .slice a3 s.c.coefs.length c3, .int .i64 s.c.bound, .slice a4 s.set.length c4, .slice a5 s.ops.length c5] 41)
  obtain ⟨ak, ck, rfl⟩ := h.row.slen
  have HS := Lib.hid (h.on hal)
  have HX := Lib.hid (SBx.new hsl)
  have HB := Lib.hid hal
  clear h hsl hal
  by_cases hz : s.set.length + s.ops.length = 0
  · have h4 : s.set.length = 0 := by omega
    have h5 : s.ops.length = 0 := by omega
    obtain ⟨b, hb⟩ : ∃ b, rupB (L.map (·.1)) s.c = b := ⟨_, rfl⟩
    have HBB := Lib.hid hb
    have HF : Hid ((decide (s.set.length + s.ops.length = 0) && rupB (L.map (·.1)) s.c) = b) := Lib.hid (by rw [hb, decide_eq_true hz, Bool.true_and])
    have H4 := Lib.hid h4
    have H5 := Lib.hid h5
    clear hb hz h4 h5
    go_enter Tryz.func75, Tryz.ntmps75
    go_upto_region 1 with fail
    generalize W.alloc (.cells #[.int .u8 s.kind, .slice a2 s.c.lits.length c2, .slice a3 s.c.coefs.length c3, .int .i64 s.c.bound, .slice a4 s.set.length c4, .slice a5 s.ops.length c5] 41) = W0 at *
    have zx := HX.out.box.lt
    have zk := HS.out.box.lt
    have ex1 : ∀ e : Ext W0, ∀ o, e.world.cell? ⟨W.heap.size, o, none⟩ = _ := fun e o => (bcell e.below _ o zx).trans (HX.out.box.cell o)
    have ex2 : ∀ e : Ext W0, ∀ o, e.world.cell? ⟨kb, o, none⟩ = _ := fun e o => (bcell e.below _ o zk).trans (HS.out.box.cell o)
    rw [H4.out, H5.out] at ex1
    refine wp_region_perm' (oneΦ 15 (.bool b)) (fun i => i == 15) (by kernel_rfl) (by kernel_rfl) (by kernel_rfl) (oneΦ_later _ _) ?_
    iterate 15 (refine walkP_calm rfl rfl rfl (fun K hK => ?_); go_big_quiet_op; refine hK _ ?_; clear hK K)
    refine walkP_mem rfl rfl (fun wa hba hFa => ?_) (fun v1 lo1 hi1 l1 g1 h1 => ?_)
    · go_simp
      refine (vrup_any _ _ (L.map (·.1)) s.c wa ((HS.out.on hba).row.pbs (HS.out.on hba).below rfl (by omega)) (HX.out.pb.below hba) (by rw [List.length_map]; omega)).mono fun e w5 ⟨h1, h2⟩ => ?_
      rw [HBB.out] at h1
      exact ⟨_, h1, h2, rfl, rfl⟩
    obtain ⟨_, -, rfl⟩ := h1
    simp only [Act.put, List.setIfInBounds_toArray, List.set_cons_succ, List.set_cons_zero]
    iterate 2 (refine walkP_calm rfl rfl rfl (fun K hK => ?_); go_big_quiet_op; refine hK _ ?_; clear hK K)
    intro wx hbx hF hI hP
    have HBX := Lib.hid (bon HB.out hbx)
    clear hF hI hP hbx
    go_wp2_with fail
    go_ret
    exact ⟨ret_bool HF.out.symm, HBX.out⟩
  · have HF : Hid ((decide (s.set.length + s.ops.length = 0) && rupB (L.map (·.1)) s.c) = false) := Lib.hid (by rw [decide_eq_false hz, Bool.false_and])
    have hzI : ((s.set.length : Int) + (s.ops.length : Int) == 0) = false := by
      have : (s.set.length : Int) + (s.ops.length : Int) ≠ 0 := by omega
      simpa using this
    clear hz
    go_enter Tryz.func75, Tryz.ntmps75
    go_upto_region 1 with fail
    generalize W.alloc (.cells #[.int .u8 s.kind, .slice a2 s.c.lits.length c2, .slice a3 s.c.coefs.length c3, .int .i64 s.c.bound, .slice a4 s.set.length c4, .slice a5 s.ops.length c5] 41) = W0 at *
    have zx := HX.out.box.lt
    have zk := HS.out.box.lt
    have ex1 : ∀ e : Ext W0, ∀ o, e.world.cell? ⟨W.heap.size, o, none⟩ = _ := fun e o => (bcell e.below _ o zx).trans (HX.out.box.cell o)
    have ex2 : ∀ e : Ext W0, ∀ o, e.world.cell? ⟨kb, o, none⟩ = _ := fun e o => (bcell e.below _ o zk).trans (HS.out.box.cell o)
    refine wp_region_perm' (oneΦ 15 (.bool false)) (fun _ => false) (by kernel_rfl) (by kernel_rfl) (by kernel_rfl) (oneΦ_later _ _) ?_
    iterate 9 (refine walkP_calm rfl rfl rfl (fun K hK => ?_); go_big_quiet_op; refine hK _ ?_; clear hK K)
    iterate 7 (refine walkP_skip rfl rfl ?_; simp only [Act.put, List.setIfInBounds_toArray, List.set_cons_succ, List.set_cons_zero])
    iterate 2 (refine walkP_calm rfl rfl rfl (fun K hK => ?_); go_big_quiet_op; refine hK _ ?_; clear hK K)
    intro wx hbx hF hI hP
    have HBX := Lib.hid (bon HB.out hbx)
    clear hF hI hP hbx
    go_wp2_with fail
    go_ret
    exact ⟨ret_bool HF.out.symm, HBX.out⟩
set_option maxHeartbeats 4000000 in
set_option maxRecDepth 100000 in
theorem kloop_any {w0 W : World} {p : GP} {kb : Nat} {vn vs vr vm v : Value} {L : List CQ} (h : KSt w0 p kb vn vs vr vm v L W) (u : Value) (s : ST) (hs : STIs W u s) :
    Calls Tryz.prog 77 #[.pointer (some ⟨kb, 0, none⟩), u] W fun e w' => e = .returned (.bool (decide (s.ops.length = 0) && validC p s.set s.c)) ∧ Below W.heap.size W w' := by
  obtain ⟨vl, vk, vs, vo, rfl, hsl⟩ := hs
  obtain ⟨a2, c2, rfl, -⟩ := hsl.pb.lits.form
  obtain ⟨a3, c3, rfl, -⟩ := hsl.pb.coefs.form
  obtain ⟨a4, c4, rfl, -, hl4, -⟩ := hsl.set.form
  obtain ⟨a5, c5, rfl, -, hl5, -⟩ := hsl.ops.form
  have hal := bal (Below.refl W.heap.size W) (.cells #[.int .u8 s.kind, .slice a2 s.c.lits.length c2, .slice a3 s.c.coefs.length c3, .int .i64 s.c.bound, .slice a4 s.set.length c4, .slice a5 s.ops.length c5] 41)
  obtain ⟨ak, ck, rfl⟩ := h.row.slen
  have HS := Lib.hid (h.on hal)
  have HX := Lib.hid (SBx.new hsl)
  have HB := Lib.hid hal
  clear h hsl hal
  by_cases hz : s.ops.length = 0
  · obtain ⟨b, hb⟩ : ∃ b, validC p s.set s.c = b := ⟨_, rfl⟩
    have HBB := Lib.hid hb
    have HF : Hid ((decide (s.ops.length = 0) && validC p s.set s.c) = b) := Lib.hid (by rw [hb, decide_eq_true hz, Bool.true_and])
    have HZ := Lib.hid hz
    clear hb hz
    go_enter Tryz.func77, Tryz.ntmps77
    go_upto_region 1 with fail
    generalize W.alloc (.cells #[.int .u8 s.kind, .slice a2 s.c.lits.length c2, .slice a3 s.c.coefs.length c3, .int .i64 s.c.bound, .slice a4 s.set.length c4, .slice a5 s.ops.length c5] 41) = W0 at *
    have zx := HX.out.box.lt
    have zk := HS.out.box.lt
    have ex1 : ∀ e : Ext W0, ∀ o, e.world.cell? ⟨W.heap.size, o, none⟩ = _ := fun e o => (bcell e.below _ o zx).trans (HX.out.box.cell o)
    have ex2 : ∀ e : Ext W0, ∀ o, e.world.cell? ⟨kb, o, none⟩ = _ := fun e o => (bcell e.below _ o zk).trans (HS.out.box.cell o)
    rw [HZ.out] at ex1
    refine wp_region_perm' (oneΦ 13 (.bool b)) (fun i => i == 13) (by kernel_rfl) (by kernel_rfl) (by kernel_rfl) (oneΦ_later _ _) ?_
    iterate 13 (refine walkP_calm rfl rfl rfl (fun K hK => ?_); go_big_quiet_op; refine hK _ ?_; clear hK K)
    refine walkP_mem rfl rfl (fun wa hba hFa => ?_) (fun v1 lo1 hi1 l1 g1 h1 => ?_)
    · go_simp
      refine (lval_any _ _ _ p s.set s.c wa ((HS.out.on hba).prog.below (HS.out.on hba).below) (HX.out.set.below hba) (HX.out.pb.below hba)).mono fun e w5 ⟨h1, h2⟩ => ?_
      rw [HBB.out] at h1
      exact ⟨_, h1, h2, rfl, rfl⟩
    obtain ⟨_, -, rfl⟩ := h1
    simp only [Act.put, List.setIfInBounds_toArray, List.set_cons_succ, List.set_cons_zero]
    iterate 2 (refine walkP_calm rfl rfl rfl (fun K hK => ?_); go_big_quiet_op; refine hK _ ?_; clear hK K)
    intro wx hbx hF hI hP
    have HBX := Lib.hid (bon HB.out hbx)
    clear hF hI hP hbx
    go_wp2_with fail
    go_ret
    exact ⟨ret_bool HF.out.symm, HBX.out⟩
  · have HF : Hid ((decide (s.ops.length = 0) && validC p s.set s.c) = false) := Lib.hid (by rw [decide_eq_false hz, Bool.false_and])
    have hzI : ((s.ops.length : Int) == 0) = false := by
      have : (s.ops.length : Int) ≠ 0 := by omega
      simpa using this
    clear hz
    go_enter Tryz.func77, Tryz.ntmps77
    go_upto_region 1 with fail
    generalize W.alloc (.cells #[.int .u8 s.kind, .slice a2 s.c.lits.length c2, .slice a3 s.c.coefs.length c3, .int .i64 s.c.bound, .slice a4 s.set.length c4, .slice a5 s.ops.length c5] 41) = W0 at *
    have zx := HX.out.box.lt
    have zk := HS.out.box.lt
    have ex1 : ∀ e : Ext W0, ∀ o, e.world.cell? ⟨W.heap.size, o, none⟩ = _ := fun e o => (bcell e.below _ o zx).trans (HX.out.box.cell o)
    have ex2 : ∀ e : Ext W0, ∀ o, e.world.cell? ⟨kb, o, none⟩ = _ := fun e o => (bcell e.below _ o zk).trans (HS.out.box.cell o)
    refine wp_region_perm' (oneΦ 13 (.bool false)) (fun _ => false) (by kernel_rfl) (by kernel_rfl) (by kernel_rfl) (oneΦ_later _ _) ?_
    iterate 5 (refine walkP_calm rfl rfl rfl (fun K hK => ?_); go_big_quiet_op; refine hK _ ?_; clear hK K)
    iterate 9 (refine walkP_skip rfl rfl ?_; simp only [Act.put, List.setIfInBounds_toArray, List.set_cons_succ, List.set_cons_zero])
    iterate 2 (refine walkP_calm rfl rfl rfl (fun K hK => ?_); go_big_quiet_op; refine hK _ ?_; clear hK K)
    intro wx hbx hF hI hP
    have HBX := Lib.hid (bon HB.out hbx)
    clear hF hI hP hbx
    go_wp2_with fail
    go_ret
    exact ⟨ret_bool HF.out.symm, HBX.out⟩
set_option maxHeartbeats 4000000 in
set_option maxRecDepth 100000 in
theorem kcut_any {w0 W : World} {p : GP} {kb : Nat} {vn vs vr vm v : Value} {L : List CQ} (h : KSt w0 p kb vn vs vr vm v L W) (hl : L.length ≤ 800000) (u : Value) (s : ST) (hs : STIs W u s) :
    Calls Tryz.prog 76 #[.pointer (some ⟨kb, 0, none⟩), u] W fun e w' => e = .returned (.bool (decide (s.set.length = 0) && decide (runP s.ops (L.map (·.1)) = (s.c, 0)))) ∧ Below W.heap.size W w' := by
  obtain ⟨vl, vk, vs, vo, rfl, hsl⟩ := hs
  obtain ⟨a2, c2, rfl, -⟩ := hsl.pb.lits.form
  obtain ⟨a3, c3, rfl, -⟩ := hsl.pb.coefs.form
  obtain ⟨a4, c4, rfl, -, hl4, -⟩ := hsl.set.form
  obtain ⟨a5, c5, rfl, -, hl5, -⟩ := hsl.ops.form
  have hal := bal (Below.refl W.heap.size W) (.cells #[.int .u8 s.kind, .slice a2 s.c.lits.length c2, .slice a3 s.c.coefs.length c3, .int .i64 s.c.bound, .slice a4 s.set.length c4, .slice a5 s.ops.length c5] 41)
  obtain ⟨ak, ck, rfl⟩ := h.row.slen
  have HS := Lib.hid (h.on hal)
  have HX := Lib.hid (SBx.new hsl)
  have HB := Lib.hid hal
  clear h hsl hal
  obtain ⟨R, hR⟩ : ∃ R, runP s.ops (L.map (·.1)) = R := ⟨_, rfl⟩
  have HR := Lib.hid hR
  rw [hR]
  clear hR
  go_enter Tryz.func76, Tryz.ntmps76
  go_upto_region 1 with fail
  generalize W.alloc (.cells #[.int .u8 s.kind, .slice a2 s.c.lits.length c2, .slice a3 s.c.coefs.length c3, .int .i64 s.c.bound, .slice a4 s.set.length c4, .slice a5 s.ops.length c5] 41) = W0 at *
  have zx := HX.out.box.lt
  have zk := HS.out.box.lt
  have ex1 : ∀ e : Ext W0, ∀ o, e.world.cell? ⟨W.heap.size, o, none⟩ = _ := fun e o => (bcell e.below _ o zx).trans (HX.out.box.cell o)
  have ex2 : ∀ e : Ext W0, ∀ o, e.world.cell? ⟨kb, o, none⟩ = _ := fun e o => (bcell e.below _ o zk).trans (HS.out.box.cell o)
  refine wp_region_tail' 11 (fun _ => True) (ad2Φ W0.heap.size 6 10 R) (fun i => i == 6 || i == 10) (by kernel_rfl) (by kernel_rfl) (by kernel_rfl) (fun _ _ => trivial) (ad2Φ_later _ _ _ _) ?_
  simp only [List.take_succ_cons, List.take_zero, List.drop_succ_cons, List.drop_zero]
  iterate 6 (refine walkP_head (by kernel_rfl) rfl rfl rfl (fun K hK => ?_); go_big_quiet_op; refine hK _ ?_; clear hK K)
  refine walkP_mem rfl rfl (fun wa hba hFa => ?_) (fun v1 lo1 hi1 l1 g1 h1 => ?_)
  · go_simp
    refine (crun_any _ _ s.ops (L.map (·.1)) wa (HX.out.ops.below hba) ((HS.out.on hba).row.pbs (HS.out.on hba).below rfl (by omega))).mono fun e w5 h5 => ?_
    rw [HR.out] at h5
    obtain ⟨v, h6, h7, h8⟩ := nmR.of_cu (B := W0.heap.size) h5 hba.size
    exact ⟨v, h6, h7, .inl ⟨rfl, h8⟩⟩
  obtain ⟨al, cl, ax, cx, rfl⟩ : ∃ al cl ak ck, v1 = .tuple #[.agg #[.slice al R.1.lits.length cl, .slice ak R.1.coefs.length ck, .int .i64 R.1.bound], .int .i64 R.2] := by
    obtain ⟨_, h⟩ := h1
    rcases h with ⟨-, al, cl, ak, ck, h, -⟩ | ⟨h, -⟩
    · exact ⟨al, cl, ak, ck, h⟩
    · exact absurd h (by decide)
  simp only [Act.put, List.setIfInBounds_toArray, List.set_cons_succ, List.set_cons_zero]
  iterate 2 (refine walkP_head (by kernel_rfl) rfl rfl rfl (fun K hK => ?_); go_big_quiet_op; refine hK _ ?_; clear hK K)
  iterate 1 (refine walkP_late (by kernel_rfl) rfl rfl rfl (fun K hK => ?_); go_big_quiet_op; refine hK _ ?_; clear hK K)
  refine walkP_mem rfl rfl (fun wa hba hFa => ?_) (fun v2 lo2 hi2 l2 g2 h2 => ?_)
  · go_simp
    exact ⟨bal (Below.refl _ _) _, .inr ⟨rfl, rfl, by simp, Blk.new _ _ _⟩⟩
  obtain rfl : v2 = .pointer (some ⟨lo2, 0, none⟩) := by
    obtain ⟨_, h⟩ := h2
    rcases h with ⟨h, -⟩ | ⟨-, h, -⟩
    · exact absurd h (by decide)
    · exact h
  simp only [Act.put, List.setIfInBounds_toArray, List.set_cons_succ, List.set_cons_zero]
  intro wx hbx hF hI hP
  have f1 : Blk wx lo2 [.slice none 0 0, .slice none 0 0, .int .i64 0] 25 := by
    rcases hF _ (.head _) with ⟨e, -⟩ | ⟨-, -, -, h⟩
    · exact absurd e (by decide)
    · exact h
  obtain ⟨q1, q2, q3, q4, q5⟩ : QRow W0.heap.size wx (.slice al R.1.lits.length cl) R.1.lits ∧ QRow W0.heap.size wx (.slice ax R.1.coefs.length cx) R.1.coefs ∧ InI R.1.bound ∧ R.1.lits.length ≤ 65536 ∧ R.1.coefs.length ≤ 65536 := by
    rcases hF _ (.tail _ (.head _)) with ⟨-, _, _, _, _, e, h⟩ | ⟨e, -⟩
    · simp only [Value.tuple.injEq, Array.mk.injEq, List.cons.injEq, Value.agg.injEq, Value.slice.injEq, and_true, true_and] at e
      obtain ⟨⟨rfl, rfl⟩, rfl, rfl⟩ := e
      exact h
    · exact absurd e (by decide)
  have kf := f1.free
  have kc := f1.cell
  have HB5 : Hid (Below W0.heap.size W0 (((wx.setCell ⟨lo2, 0, none⟩ (.slice al R.1.lits.length cl)).setCell ⟨lo2, 1, none⟩ (.slice ax R.1.coefs.length cx)).setCell ⟨lo2, 2, none⟩ (.int .i64 R.1.bound))) := Lib.hid (((hbx.setCell (p := ⟨lo2, 0, none⟩) l2 _).setCell (p := ⟨lo2, 1, none⟩) l2 _).setCell (p := ⟨lo2, 2, none⟩) l2 _)
  have HBC := Lib.hid (((f1.set 0 (.slice al R.1.lits.length cl)).set 1 (.slice ax R.1.coefs.length cx)).set 2 (.int .i64 R.1.bound))
  have HQ1 := Lib.hid (((q1.store f1 (by decide) 0 (.slice al R.1.lits.length cl)).store (f1.set 0 _) (by decide) 1 (.slice ax R.1.coefs.length cx)).store ((f1.set 0 _).set 1 _) (by decide) 2 (.int .i64 R.1.bound))
  have HQ2 := Lib.hid (((q2.store f1 (by decide) 0 (.slice al R.1.lits.length cl)).store (f1.set 0 _) (by decide) 1 (.slice ax R.1.coefs.length cx)).store ((f1.set 0 _).set 1 _) (by decide) 2 (.int .i64 R.1.bound))
  have HQ3 := Lib.hid (And.intro q3 (And.intro q4 q5))
  clear hF hI hP f1 q1 q2 q3 q4 q5 hbx ex1 ex2 h1 h2
  iterate 2 (refine ⟨rfl, rfl, ?_⟩; go_simp)
  simp only [tailW]
  clear kf kc
  generalize ((wx.setCell ⟨lo2, 0, none⟩ (.slice al R.1.lits.length cl)).setCell ⟨lo2, 1, none⟩ (.slice ax R.1.coefs.length cx)).setCell ⟨lo2, 2, none⟩ (.int .i64 R.1.bound) = w5 at *
  have HX5 := Lib.hid (HX.out.on HB5.out)
  have kc5 := HBC.out.cell
  simp only [List.set_cons_zero, List.set_cons_succ] at kc5
  have kx5 := HX5.out.box.cell
  have HBB := Lib.hid (bon HB.out HB5.out)
  by_cases hz : s.set.length = 0
  · rw [hz] at kx5
    by_cases hE : R.2 = 0
    · obtain ⟨b, hb⟩ : ∃ b, decide (R.1 = s.c) = b := ⟨_, rfl⟩
      have HBE := Lib.hid hb
      have HF : Hid ((decide (s.set.length = 0) && decide (R = (s.c, 0))) = b) := Lib.hid (by
        rw [decide_eq_true hz, Bool.true_and, ← hb]
        exact decide_eq_decide.2 ⟨fun h => by rw [h], fun h => Prod.ext h hE⟩)
      have HPI : Hid (PBIs w5 (.agg #[.slice al R.1.lits.length cl, .slice ax R.1.coefs.length cx, .int .i64 R.1.bound]) R.1) := Lib.hid ⟨_, _, rfl, HQ1.out.ints (by have := HQ3.out.2.1; omega), HQ2.out.ints (by have := HQ3.out.2.2; omega), HQ3.out.1⟩
      clear hb hz
      go_wp2_with (go_at_call 116; (with_reducible refine (pEqual_any _ _ R.1 s.c _ HPI.out HX5.out.pb).mono ?_); rintro e w6 ⟨e6, hb6⟩; rw [HBE.out] at e6; subst e6; have HB6 := Lib.hid (bon HBB.out hb6); clear hb6)
      go_ret
      exact ⟨ret_bool HF.out.symm, HB6.out⟩
    · have HF : Hid ((decide (s.set.length = 0) && decide (R = (s.c, 0))) = false) := Lib.hid (by
        rw [decide_eq_false (fun h : R = (s.c, 0) => hE (by rw [h])), Bool.and_false])
      have hEb : (R.2 == 0) = false := by simp [hE]
      clear hE hz
      go_wp2_with fail
      go_ret
      exact ⟨ret_bool HF.out.symm, HBB.out⟩
  · have HF : Hid ((decide (s.set.length = 0) && decide (R = (s.c, 0))) = false) := Lib.hid (by rw [decide_eq_false hz, Bool.false_and])
    have hzI : ((s.set.length : Int) == 0) = false := by
      have : (s.set.length : Int) ≠ 0 := by omega
      simpa using this
    clear hz
    go_wp2_with fail
    go_ret
    exact ⟨ret_bool HF.out.symm, HBB.out⟩
end Go.Proofs.YteblddnoegbalaaGreat
