/- My texts Ex3, merged. -/
import Derived.Test.YtgakoainjgjimaaGreatDoorM07
import Derived.Test.YtgakoainjgjimaaGreatDoorM05
import Derived.Test.YtgakoainjgjimaaGreatDoorM04
import Derived.Test.YtgakoainjgjimaaGreatDoorM03
import Derived.Test.YtgakoainjgjimaaGreatDoorM00
import Derived.Test.YtgakoainjgjimaaGreatDoorProg
import Derived.WalkKit
import Derived.Lib.Hide
import Derived.Deep.QuietTactic
import Derived.BigQuiet
import Derived.WalkSpells
import Derived.Lib.SliceRun
import Derived.MapKept
import Derived.Maps.OwnSet
import Derived.Maps.OwnOps
import Derived.Test.YtgakoainjgjimaaGreatDoorM02
import Derived.Test.YtgakoainjgjimaaGreatDoorM01
import Derived.Deep.AppendLies
import Derived.Lib.Bytealg
import Derived.Deep.DeepCutAuto
import Derived.Laws.EntriesVeiled
import Derived.Deep.RegionWith
import Derived.Deep.OwnRows
import Derived.Test.YtgakoainjgjimaaGreatDoorM06
import Derived.RangeFuncNested
import Derived.RangeFuncBound
import Derived.RangeFuncCalls
import Derived.RangeFuncLeaves
import Derived.OwnWalkIn
import Derived.TacticsInMore
import Derived.LoopNIn
import Derived.LoopIn
import Derived.Stop.RegionWithIn
import Derived.Shelf.Abstract
import Derived.Deep.LoopGhost
import Derived.Deep.DrawnRows
import Derived.Shelf.Sort.Plain
import Derived.Shelf.Slices.CompactI
import Derived.Shelf.Slices.In.SortNone
import Derived.Shelf.Strconv.Itoa3
import Derived.Shelf.Strings.BuilderK
import Derived.Shelf.Slices.SearchI
import Derived.Shelf.Slices.Empties

namespace Go.Proofs.YtgakoainjgjimaaGreatDoor
open Go.RowKit
set_option maxHeartbeats 1000000 in
theorem xcheck_any (v vm : Value) (p : GP) (m : List Int) (w : World) (h : ProgIs w v p) (hm : Ints w vm m) :
    Calls Tryz.prog 37 #[v, vm] w fun e w' => e = .returned (.int .i64 (xE p m)) ∧ Below w.heap.size w w' := by
  have h0 := h
  obtain ⟨vn, vs, vr, vmn, rfl, -⟩ := h
  have hal := bal (Below.refl w.heap.size w) (.cells #[.int .i64 p.n, vn, vs, vr, vmn] 27)
  have HBX := Lib.hid (Blk.new w [.int .i64 p.n, vn, vs, vr, vmn] 27)
  have kx := HBX.out.cell
  have HP := Lib.hid (h0.below hal)
  have HM := Lib.hid (hm.below hal)
  have HAL := Lib.hid hal
  obtain ⟨am, cm, rfl, -⟩ := hm.form
  clear h0 hm hal
  by_cases hv : validE p = 0
  · cases hs : setQ p.n m with
    | true =>
      have hce : checkE p m = 0 := by unfold checkE; rw [if_neg (by simp [hv]), hs]; rfl
      cases hmod : modelsB p m with
      | true =>
        have HF : Hid (xE p m = 0) := Lib.hid (xE_of hv hs hmod)
        have HC : Hid (Ending.returned (.tuple #[.bool (decide (checkE p m = 0) && modelsB p m), .int .i64 (checkE p m)]) = .returned (.tuple #[.bool true, .int .i64 0])) := Lib.hid (by rw [hce, hmod]; rfl)
        clear hv hs hce hmod
        go_enter Tryz.func37, Tryz.ntmps37
        go_wp2_with (go_at_call 85; (with_reducible refine (models_any _ _ p m _ HP.out HM.out).mono ?_); rintro e w1 ⟨e1, hb1⟩; rw [HC.out] at e1; subst e1)
        go_ret
        exact ⟨ret_int HF.out.symm, bon HAL.out hb1⟩
      | false =>
        have HF : Hid (xE p m = 410) := Lib.hid (by unfold xE; rw [if_neg (by simp [hv]), if_pos hs, hmod]; rfl)
        have HC : Hid (Ending.returned (.tuple #[.bool (decide (checkE p m = 0) && modelsB p m), .int .i64 (checkE p m)]) = .returned (.tuple #[.bool false, .int .i64 0])) := Lib.hid (by rw [hce, hmod]; rfl)
        clear hv hs hce hmod
        go_enter Tryz.func37, Tryz.ntmps37
        go_wp2_with (go_at_call 85; (with_reducible refine (models_any _ _ p m _ HP.out HM.out).mono ?_); rintro e w1 ⟨e1, hb1⟩; rw [HC.out] at e1; subst e1)
        go_ret
        exact ⟨ret_int HF.out.symm, bon HAL.out hb1⟩
    | false =>
      have HF : Hid (xE p m = 2) := Lib.hid (by unfold xE; rw [if_neg (by simp [hv]), hs]; rfl)
      have HC : Hid (Ending.returned (.tuple #[.bool (decide (checkE p m = 0) && modelsB p m), .int .i64 (checkE p m)]) = .returned (.tuple #[.bool false, .int .i64 2])) := Lib.hid (by
        have hce : checkE p m = 2 := by unfold checkE; rw [if_neg (by simp [hv]), hs]; rfl
        rw [hce]; rfl)
      clear hv hs
      go_enter Tryz.func37, Tryz.ntmps37
      go_wp2_with (go_at_call 85; (with_reducible refine (models_any _ _ p m _ HP.out HM.out).mono ?_); rintro e w1 ⟨e1, hb1⟩; rw [HC.out] at e1; subst e1)
      go_ret
      exact ⟨ret_int HF.out.symm, bon HAL.out hb1⟩
  · have h2 : (validE p == 0) = false := by simp [hv]
    have HF : Hid (xE p m = validE p) := Lib.hid (by unfold xE; rw [if_pos hv])
    have HC : Hid (Ending.returned (.tuple #[.bool (decide (checkE p m = 0) && modelsB p m), .int .i64 (checkE p m)]) = .returned (.tuple #[.bool false, .int .i64 (validE p)])) := Lib.hid (by
      have hce : checkE p m = validE p := by unfold checkE; rw [if_pos hv]
      rw [hce, decide_eq_false hv]; rfl)
    clear hv
    go_enter Tryz.func37, Tryz.ntmps37
    go_wp2_with (go_at_call 85; (with_reducible refine (models_any _ _ p m _ HP.out HM.out).mono ?_); rintro e w1 ⟨e1, hb1⟩; rw [HC.out] at e1; subst e1)
    go_ret
    exact ⟨ret_int HF.out.symm, bon HAL.out hb1⟩
theorem Below.drewN {w : World} : ∀ q, Below w.heap.size w (w.drewN q)
  | 0 => Below.refl _ _
  | q + 1 => by
    have ih := Below.drewN (w := w) q
    exact ih.drew
theorem bsearch_any (v : Value) (m : List Int) (x : Int) (w : World) (h : Ints w v m) (hs : m.Pairwise (· < ·)) :
    Calls Tryz.prog 87 #[v, .int .i64 x] w fun e w' => ∃ k : Int, e = .returned (.tuple #[.int .i64 k, .bool (decide (x ∈ m))]) ∧ Below w.heap.size w w' := by
  obtain ⟨a1, c1, rfl, -, hl1, -, hc⟩ := h.form
  by_cases h0 : 0 < m.length
  · obtain ⟨b, off, rfl, hb, hcc⟩ := hc h0
    refine (Tryz.slices_BinarySearch_int b off m.length c1 m x w (Nat.le_refl _) (by omega) (fun j hj => hcc j hj) (by rw [List.take_length]; exact hs.imp fun h => Int.le_of_lt h)).mono ?_
    rintro e w' ⟨rfl, q, rfl⟩
    exact ⟨_, by rw [List.take_length, List.contains_eq_mem], Below.drewN q⟩
  · have e0 : m = [] := List.eq_nil_of_length_eq_zero (by omega)
    subst e0
    refine (Tryz.slices_BinarySearch_int_empty a1 c1 x w).mono ?_
    rintro e w' ⟨rfl, rfl⟩
    exact ⟨0, by simp, Below.refl _ _⟩
def InX (w : World) (mb : Nat) (m : List Int) : Prop := (∃ v, Blk w mb [v] 23 ∧ Ints w v m) ∧ m.Pairwise (· < ·)
theorem InX.below {w w' : World} {mb : Nat} {m : List Int} (h : InX w mb m) (hb : Below w.heap.size w w') : InX w' mb m :=
  let ⟨⟨v, h1, h2⟩, h3⟩ := h; ⟨⟨v, h1.below hb, h2.below hb⟩, h3⟩
def InF (w : World) (ib mb : Nat) (m : List Int) : Prop := Blk w ib [.func (.func 86) #[] #[.pointer (some ⟨mb, 0, none⟩)]] 82 ∧ InX w mb m
theorem InF.below {w w' : World} {ib mb : Nat} {m : List Int} (h : InF w ib mb m) (hb : Below w.heap.size w w') : InF w' ib mb m := ⟨h.1.below hb, h.2.below hb⟩
theorem InF.box {w : World} {ib mb : Nat} {m : List Int} (h : InF w ib mb m) : Blk w ib [.func (.func 86) #[] #[.pointer (some ⟨mb, 0, none⟩)]] 82 := h.1
theorem InF.in {w : World} {ib mb : Nat} {m : List Int} (h : InF w ib mb m) : InX w mb m := h.2
theorem inx_any (x : Int) (m : List Int) (mb : Nat) (w : World) (h : InX w mb m) :
    Calls Tryz.prog 86 #[.int .i64 x, .pointer (some ⟨mb, 0, none⟩)] w fun e w' => e = .returned (.bool (decide (x ∈ m))) ∧ Below w.heap.size w w' := by
  obtain ⟨⟨v, h1, h2⟩, h3⟩ := h
  obtain ⟨a1, c1, rfl, -⟩ := h2.form
  have kb := h1.cell 0
  have HM := Lib.hid h2
  have HS := Lib.hid h3
  clear h1 h2 h3
  go_enter Tryz.func86, Tryz.ntmps86
  go_wp2_with (go_at_call 87; (with_reducible refine (bsearch_any _ m x _ HM.out HS.out).mono ?_); rintro e w1 ⟨k, rfl, hb1⟩)
  go_ret
  exact ⟨rfl, hb1⟩
theorem other_any (x a : Int) (m : List Int) (ab ib mb : Nat) (w : World) (ha : Blk w ab [.int .i64 a] 3) (h : InF w ib mb m) :
    Calls Tryz.prog 89 #[.int .i64 x, .pointer (some ⟨ab, 0, none⟩), .pointer (some ⟨ib, 0, none⟩)] w fun e w' => e = .returned (.bool (decide (x ≠ a) && decide (x ∈ m))) ∧ Below w.heap.size w w' := by
  have ka := ha.cell 0
  have ki := h.box.cell 0
  have HI := Lib.hid h.in
  clear ha h
  by_cases hx : x = a
  · have h1 : (x != a) = false := by simp [hx]
    have HF : Hid ((decide (x ≠ a) && decide (x ∈ m)) = false) := Lib.hid (by simp [hx])
    clear hx
    go_enter Tryz.func89, Tryz.ntmps89
    go_wp2_with fail
    go_ret
    exact ⟨ret_bool HF.out.symm, Below.refl _ _⟩
  · have h1 : (x != a) = true := by simp [hx]
    have HF : Hid ((decide (x ≠ a) && decide (x ∈ m)) = decide (x ∈ m)) := Lib.hid (by simp [hx])
    clear hx
    go_enter Tryz.func89, Tryz.ntmps89
    go_wp2_with (go_at_call 86; (with_reducible refine (inx_any _ m _ _ HI.out).mono ?_); rintro e w1 ⟨rfl, hb1⟩)
    go_ret
    exact ⟨ret_bool HF.out.symm, hb1⟩
set_option maxHeartbeats 1000000 in
theorem idx_xo (v : Value) (l : List Int) (w : World) (h : Ints w v l) (g : Nat → Bool) (ca cb : Value)
    (hg : ∀ w', Below w.heap.size w w' → ∀ j, j < l.length → Calls Tryz.prog 89 #[.int .i64 (ix l j), ca, cb] w' fun e w'' => e = .returned (.bool (g j)) ∧ Below w'.heap.size w' w'') :
    Calls Tryz.prog 90 #[v, .func (.func 89) #[] #[ca, cb]] w fun e w' => ∃ r, e = .returned (.int .i64 r) ∧ IxP l.length g r ∧ Below w.heap.size w w' := by
  obtain ⟨a1, c1, rfl, -, hl1, -, hcell⟩ := h.form
  have HG := Lib.hid hg
  clear h hg
  go_enter Tryz.func90, Tryz.ntmps90
  go_wp2
  go_loopw [8] (fun i wx => IxR l.length g w i wx) (fun i _ => l.length - (intOf i).toNat)
  case atStart => exact ⟨0, by omega, rfl, fun j hj => absurd hj (Nat.not_lt_zero _), Below.refl _ _⟩
  case round =>
    obtain ⟨k, hk, rfl, hall, hb⟩ := hrel
    have HA := Lib.hid hall
    clear hall
    by_cases hlt : k < l.length
    · obtain ⟨b, off, rfl, hbl, hc⟩ := hcell (by omega)
      have hk1 := (bcell hb _ _ hbl).trans (hc k hlt)
      clear hc hcell
      cases g1 : g k with
      | true =>
        have HK : Hid (_ = true) := Lib.hid g1
        have HC := Lib.hid (HG.out _ hb k hlt)
        rw [g1] at HC
        clear g1
        go_wp2_with (go_at_call 89; refine (HC.out).mono ?_; rintro e w1 ⟨rfl, hb1⟩)
        go_ret
        exact ⟨_, rfl, .inr ⟨k, hlt, rfl, HK.out, HA.out⟩, bon hb hb1⟩
      | false =>
        have HN := Lib.hid (lt_succ_all HA.out g1)
        have HC := Lib.hid (HG.out _ hb k hlt)
        rw [g1] at HC
        clear g1
        go_wp2_with (go_at_call 89; refine (HC.out).mono ?_; rintro e w1 ⟨rfl, hb1⟩)
        first
          | (go_roundw
             case rel => (exact ⟨k + 1, by omega, by go_num, HN.out, bon hb hb1⟩)
             case measure => (simp [intOf]; omega))
          | (refine ⟨?_, ?_⟩
             · (exact ⟨k + 1, by omega, by go_num, HN.out, bon hb hb1⟩)
             · (simp [intOf]; omega))
    · have HN : Hid (∀ j, j < l.length → g j = false) := Lib.hid (fun j hj => HA.out j (by omega))
      go_wp2
      go_ret
      exact ⟨_, rfl, .inl ⟨rfl, HN.out⟩, hb⟩
set_option maxHeartbeats 1000000 in
theorem ctn_xo (v : Value) (l : List Int) (w : World) (h : Ints w v l) (g : Nat → Bool) (ca cb : Value)
    (hg : ∀ w', Below w.heap.size w w' → ∀ j, j < l.length → Calls Tryz.prog 89 #[.int .i64 (ix l j), ca, cb] w' fun e w'' => e = .returned (.bool (g j)) ∧ Below w'.heap.size w' w'') :
    Calls Tryz.prog 76 #[v, .func (.func 89) #[] #[ca, cb]] w fun e w' => e = .returned (.bool (anyR l.length g)) ∧ Below w.heap.size w w' := by
  have HI := Lib.hid (idx_xo v l w h g ca cb hg)
  obtain ⟨a1, c1, rfl, -⟩ := h.form
  clear h hg
  go_enter Tryz.func76, Tryz.ntmps76
  go_wp2_with (go_at_call 90; refine (HI.out).mono ?_; rintro e w1 ⟨r, rfl, hr, hb1⟩; have HR := Lib.hid hr; clear hr)
  go_ret
  exact ⟨ret_bool HR.out.any, hb1⟩
theorem hl_neg {T m : List Int} {x : Int} (h : x < 0) : hlT T m x = !decide (-x ∈ m) := by unfold hlT; rw [if_neg (by omega)]
theorem hl_pos {m lv : List Int} {most x : Int} (h : 0 < x) : hlT (lvT m lv most) m x = (decide (x ∈ m) && (decide (1 ≤ ix lv x.toNat) && decide (ix lv x.toNat ≤ most))) := by
  unfold hlT lvT; rw [if_pos h, Bool.eq_iff_iff]
  simp only [decide_eq_true_eq, List.mem_filter, Bool.and_eq_true]
structure DvSt (r : GR) (vh vb vw vlv : Value) (a : Int) (m lv : List Int) (ib lb mb B : Nat) (W : World) : Prop where
  rbx : Blk W B [.bool r.choice, vh, .bool r.sum, .int .i64 r.bound, vb, vw] 64
  abx : Blk W (B + 1) [.int .i64 a] 3
  inf : InF W ib mb m
  lbx : Blk W lb [vlv] 23
  lvs : Ints W vlv lv
  rul : RuleSl W r vh vb vw
theorem DvSt.on {r : GR} {vh vb vw vlv : Value} {a : Int} {m lv : List Int} {ib lb mb B : Nat} {W W' : World} (h : DvSt r vh vb vw vlv a m lv ib lb mb B W) (hb : Below W.heap.size W W') : DvSt r vh vb vw vlv a m lv ib lb mb B W' :=
  ⟨h.rbx.below hb, h.abx.below hb, h.inf.below hb, h.lbx.below hb, h.lvs.below hb, h.rul.below hb⟩
structure DvOk (r : GR) : Prop where
  ok : BodyOk r
  nz : ∀ j, j < r.body.length → ix r.body j ≠ 0
  bd : r.sum = false → r.bound ≤ 0
theorem avW_bound {T m : List Int} {r : GR} (h : BodyOk r) (hs : r.sum = true) : ∀ (k : Nat), k ≤ r.body.length → 0 ≤ avW T m r k ∧ avW T m r k ≤ 1048576 * k
  | 0, _ => by simp [avW]
  | k + 1, hk => by
    have ih := avW_bound (T := T) (m := m) h hs k (by omega)
    have hw := h.w hs k (by have := h.wlen hs; omega)
    unfold avW
    push_cast
    split <;> omega
def DvRelF (T m : List Int) (r : GR) (W : World) (s i : Value) (wx : World) : Prop :=
  ∃ k : Nat, k ≤ r.body.length ∧ i = .int .i64 k ∧ s = .int .i64 0 ∧ (∀ j, j < k → hlT T m (ix r.body j) = true) ∧ Below W.heap.size W wx
def DvRelT (T m : List Int) (r : GR) (W : World) (s i : Value) (wx : World) : Prop :=
  ∃ k : Nat, k ≤ r.body.length ∧ i = .int .i64 k ∧ s = .int .i64 (avW T m r k) ∧ Below W.heap.size W wx
set_option maxHeartbeats 8000000 in
set_option maxRecDepth 100000 in
theorem der_any (vr : Value) (r : GR) (a most : Int) (m lv : List Int) (ib lb mb : Nat) (vlv : Value) (w : World) (hr : RuleIs w vr r) (hi : InF w ib mb m) (hl : Blk w lb [vlv] 23) (hlv : Ints w vlv lv) (hok : DvOk r) (hm : ∀ x ∈ m, 1 ≤ x ∧ x < lv.length) :
    Calls Tryz.prog 88 #[vr, .int .i64 a, .int .i64 most, .pointer (some ⟨ib, 0, none⟩), .pointer (some ⟨lb, 0, none⟩)] w fun e w' => e = .returned (.bool (derT (lvT m lv most) m r a)) ∧ Below w.heap.size w w' := by
  obtain ⟨vh, vb, vw, rfl, hsl⟩ := hr
  have hal := bal (bal (Below.refl w.heap.size w) (.cells #[.bool r.choice, vh, .bool r.sum, .int .i64 r.bound, vb, vw] 64)) (.cells #[.int .i64 a] 3)
  obtain ⟨a1, c1, rfl, -, hl1, -, -⟩ := hsl.head.form
  obtain ⟨a2, c2, rfl, -, hl2, -, -⟩ := hsl.body.form
  obtain ⟨a3, c3, rfl, -, hl3, -, -⟩ := hsl.wts.form
  obtain ⟨a4, c4, rfl, -, hl4, -, -⟩ := hlv.form
  have hfit := hsl.body.2
  have hbd := hsl.bound
  unfold InI at hbd
  have hst : DvSt r (.slice a1 r.head.length c1) (.slice a2 r.body.length c2) (.slice a3 r.w.length c3) (.slice a4 lv.length c4) a m lv ib lb mb w.heap.size ((w.alloc (.cells #[.bool r.choice, .slice a1 r.head.length c1, .bool r.sum, .int .i64 r.bound, .slice a2 r.body.length c2, .slice a3 r.w.length c3] 64)).alloc (.cells #[.int .i64 a] 3)) :=
    ⟨(Blk.new w [.bool r.choice, .slice a1 r.head.length c1, .bool r.sum, .int .i64 r.bound, .slice a2 r.body.length c2, .slice a3 r.w.length c3] _).alloc _, Blk.new2 w _ [.int .i64 a] _, hi.below hal, hl.below hal, hlv.below hal, hsl.below hal⟩
  have HS0 := Lib.hid hst
  have kr0 := hst.rbx.cell
  have ka0 := hst.abx.cell 0
  have HWA := Lib.hid hal
  have HMR := Lib.hid hm
  have HNZ := Lib.hid hok.nz
  have HLT : Hid (∀ j, j < r.body.length → -9223372036854775808 < ix r.body j ∧ ix r.body j ≤ 9223372036854775807) := Lib.hid (fun j hj => ⟨hok.ok.lit j hj, (hfit j).2⟩)
  have hlen := hok.ok.len
  have HOKB := Lib.hid hok.ok
  have hbd0 : r.sum = false → r.bound ≤ 0 := hok.bd
  have HBD := Lib.hid hbd0
  clear hsl hi hl hlv hok hm hal hst hfit hbd0
  go_enter Tryz.func88, Tryz.ntmps88
  go_upto_region 1 with fail
  generalize (w.alloc (.cells #[.bool r.choice, .slice a1 r.head.length c1, .bool r.sum, .int .i64 r.bound, .slice a2 r.body.length c2, .slice a3 r.w.length c3] 64)).alloc (.cells #[.int .i64 a] 3) = W0 at *
  by_cases hd : a ∈ r.head
  case neg =>
    have HHD : Hid (decide (a ∈ r.head) = false) := Lib.hid (decide_eq_false hd)
    have HF : Hid (derT (lvT m lv most) m r a = false) := Lib.hid (by unfold derT; rw [decide_eq_false hd, Bool.false_and])
    clear hd
    go_wp2_with (go_at_call 45; (with_reducible refine (contains_any _ r.head a _ HS0.out.rul.head).mono ?_); rintro e w1 ⟨e1, rfl⟩; rw [HHD.out] at e1; subst e1)
    go_ret
    exact ⟨ret_bool HF.out.symm, HWA.out⟩
  have HHD : Hid (decide (a ∈ r.head) = true) := Lib.hid (decide_eq_true hd)
  clear hd
  cases hc : r.choice with
  | true =>
    have HF : Hid (derT (lvT m lv most) m r a = avT (lvT m lv most) m r) := Lib.hid (by unfold derT soleB; rw [HHD.out, hc, Bool.true_or, Bool.true_and, Bool.true_and])
    rw [hc] at kr0
    clear hc
    go_upto_region 4 with (go_at_call 45; (with_reducible refine (contains_any _ r.head a _ HS0.out.rul.head).mono ?_); rintro e w1 ⟨e1, rfl⟩; rw [HHD.out] at e1; subst e1)
    obtain ⟨W2, rfl⟩ : ∃ x : World, x = W0 := ⟨_, rfl⟩
    have HW0 := Lib.hid HWA.out
    have HS2 := Lib.hid HS0.out
    have kr2 := HS2.out.rbx.cell
    clear kr0 ka0
    cases hs : r.sum with
    | false =>
      have HSUM := Lib.hid hs
      have hb0 := HBD.out hs
      rw [hs] at kr2
      clear hs
      go_wp2
      go_loopw [9, 32] (fun s i wx => DvRelF (lvT m lv most) m r W2 s i wx) (fun _ i _ => r.body.length - (intOf i).toNat)
      case atStart => exact ⟨0, Nat.zero_le _, rfl, rfl, fun j hj => absurd hj (Nat.not_lt_zero _), Below.refl _ _⟩
      case round =>
        obtain ⟨k, hk, rfl, rfl, hall, hbr⟩ := hrel
        have HALL := Lib.hid hall
        have HBr := Lib.hid hbr
        have HSr := Lib.hid (HS2.out.on hbr)
        have krr := HSr.out.rbx.cell
        have kir := HSr.out.inf.box.cell 0
        rw [HSUM.out] at krr
        clear hall hbr
        by_cases hlt : k < r.body.length
        · obtain ⟨bb, ob, rfl, hbb, hcb⟩ := HSr.out.rul.body.at hlt
          have hlit := HLT.out k hlt
          have HCW4 : Hid (∀ e : World, Below wr.heap.size wr e → True) := Lib.hid fun _ _ => trivial
          by_cases hneg : ix r.body k < 0
          · have hh := hl_neg (T := lvT m lv most) (m := m) hneg
            have HCL4 : Hid (∀ e : World, Below wr.heap.size wr e → True) := Lib.hid fun _ _ => trivial
            by_cases hin : -(ix r.body k) ∈ m
            · have HIN : Hid (decide (-(ix r.body k) ∈ m) = true) := Lib.hid (decide_eq_true hin)
              rw [decide_eq_true hin] at hh
              have HH : Hid (hlT (lvT m lv most) m (ix r.body k) = false) := Lib.hid hh
              clear hh hin
              go_wp2_with (go_at_call 86; (with_reducible refine (inx_any _ m _ wr HSr.out.inf.in).mono ?_); rintro e w4 ⟨e4, hb4⟩; rw [HIN.out] at e4; subst e4; have HB4 := Lib.hid (bon HBr.out hb4); have HS4 := Lib.hid (HSr.out.on hb4); have kr4 := HS4.out.rbx.cell; rw [HSUM.out] at kr4; have kl4 := HS4.out.lbx.cell 0; have kc4 := HCL4.out _ hb4; have kw4 := HCW4.out _ hb4; clear hb4)
              go_ret
              exact ⟨ret_bool (HF.out.trans (by unfold avT; rw [HSUM.out, if_neg Bool.false_ne_true]; exact allR_false k hlt HH.out)).symm, bon HW0.out HB4.out⟩
            · have HIN : Hid (decide (-(ix r.body k) ∈ m) = false) := Lib.hid (decide_eq_false hin)
              rw [decide_eq_false hin] at hh
              have HH : Hid (hlT (lvT m lv most) m (ix r.body k) = true) := Lib.hid hh
              clear hh hin
              have HALL2 : Hid (∀ j, j < k + 1 → hlT (lvT m lv most) m (ix r.body j) = true) := Lib.hid fun j hj => (if e : j = k then e ▸ HH.out else HALL.out j (by omega))
              go_wp2_with (go_at_call 86; (with_reducible refine (inx_any _ m _ wr HSr.out.inf.in).mono ?_); rintro e w4 ⟨e4, hb4⟩; rw [HIN.out] at e4; subst e4; have HB4 := Lib.hid (bon HBr.out hb4); have HS4 := Lib.hid (HSr.out.on hb4); have kr4 := HS4.out.rbx.cell; rw [HSUM.out] at kr4; have kl4 := HS4.out.lbx.cell 0; have kc4 := HCL4.out _ hb4; have kw4 := HCW4.out _ hb4; clear hb4)
              first
                | (go_roundw
                   case rel => (exact ⟨k + 1, hlt, by go_num, rfl, HALL2.out, HB4.out⟩)
                   case measure => (simp [intOf]; omega))
                | (refine ⟨?_, ?_⟩
                   · (exact ⟨k + 1, hlt, by go_num, rfl, HALL2.out, HB4.out⟩)
                   · (simp [intOf]; omega))
          · have hpos : 0 < ix r.body k := by have := HNZ.out k hlt; omega
            have hh := hl_pos (m := m) (lv := lv) (most := most) hpos
            by_cases hin : ix r.body k ∈ m
            · have HIN : Hid (decide (ix r.body k ∈ m) = true) := Lib.hid (decide_eq_true hin)
              rw [decide_eq_true hin, Bool.true_and] at hh
              have hr9 := HMR.out _ hin
              obtain ⟨bl, ol, rfl, hbl, hcl⟩ := HSr.out.lvs.at (show (ix r.body k).toNat < lv.length by omega)
              have HCL4 : Hid (∀ e : World, Below wr.heap.size wr e → e.cell? ⟨bl, ol + (ix r.body k).toNat, none⟩ = some (.int .i64 (ix lv (ix r.body k).toNat))) := Lib.hid fun e he => (bcell he _ _ hbl).trans hcl
              clear hin hcl
              by_cases hl1 : 1 ≤ ix lv (ix r.body k).toNat
              · by_cases hl2 : ix lv (ix r.body k).toNat ≤ most
                · rw [decide_eq_true hl1, decide_eq_true hl2] at hh
                  have HH : Hid (hlT (lvT m lv most) m (ix r.body k) = true) := Lib.hid hh
                  clear hh
                  have HALL2 : Hid (∀ j, j < k + 1 → hlT (lvT m lv most) m (ix r.body j) = true) := Lib.hid fun j hj => (if e : j = k then e ▸ HH.out else HALL.out j (by omega))
                  go_wp2_with (go_at_call 86; (with_reducible refine (inx_any _ m _ wr HSr.out.inf.in).mono ?_); rintro e w4 ⟨e4, hb4⟩; rw [HIN.out] at e4; subst e4; have HB4 := Lib.hid (bon HBr.out hb4); have HS4 := Lib.hid (HSr.out.on hb4); have kr4 := HS4.out.rbx.cell; rw [HSUM.out] at kr4; have kl4 := HS4.out.lbx.cell 0; have kc4 := HCL4.out _ hb4; have kw4 := HCW4.out _ hb4; clear hb4)
                  first
                    | (go_roundw
                       case rel => (exact ⟨k + 1, hlt, by go_num, rfl, HALL2.out, HB4.out⟩)
                       case measure => (simp [intOf]; omega))
                    | (refine ⟨?_, ?_⟩
                       · (exact ⟨k + 1, hlt, by go_num, rfl, HALL2.out, HB4.out⟩)
                       · (simp [intOf]; omega))
                · have hd2 : decide (ix lv (ix r.body k).toNat ≤ most) = false := decide_eq_false hl2
                  have hl2' : most < ix lv (ix r.body k).toNat := by omega
                  rw [decide_eq_true hl1, decide_eq_false hl2] at hh
                  have HH : Hid (hlT (lvT m lv most) m (ix r.body k) = false) := Lib.hid hh
                  clear hh
                  go_wp2_with (go_at_call 86; (with_reducible refine (inx_any _ m _ wr HSr.out.inf.in).mono ?_); rintro e w4 ⟨e4, hb4⟩; rw [HIN.out] at e4; subst e4; have HB4 := Lib.hid (bon HBr.out hb4); have HS4 := Lib.hid (HSr.out.on hb4); have kr4 := HS4.out.rbx.cell; rw [HSUM.out] at kr4; have kl4 := HS4.out.lbx.cell 0; have kc4 := HCL4.out _ hb4; have kw4 := HCW4.out _ hb4; clear hb4)
                  go_ret
                  exact ⟨ret_bool (HF.out.trans (by unfold avT; rw [HSUM.out, if_neg Bool.false_ne_true]; exact allR_false k hlt HH.out)).symm, bon HW0.out HB4.out⟩
              · rw [decide_eq_false hl1, Bool.false_and] at hh
                have HH : Hid (hlT (lvT m lv most) m (ix r.body k) = false) := Lib.hid hh
                clear hh
                go_wp2_with (go_at_call 86; (with_reducible refine (inx_any _ m _ wr HSr.out.inf.in).mono ?_); rintro e w4 ⟨e4, hb4⟩; rw [HIN.out] at e4; subst e4; have HB4 := Lib.hid (bon HBr.out hb4); have HS4 := Lib.hid (HSr.out.on hb4); have kr4 := HS4.out.rbx.cell; rw [HSUM.out] at kr4; have kl4 := HS4.out.lbx.cell 0; have kc4 := HCL4.out _ hb4; have kw4 := HCW4.out _ hb4; clear hb4)
                go_ret
                exact ⟨ret_bool (HF.out.trans (by unfold avT; rw [HSUM.out, if_neg Bool.false_ne_true]; exact allR_false k hlt HH.out)).symm, bon HW0.out HB4.out⟩
            · have HIN : Hid (decide (ix r.body k ∈ m) = false) := Lib.hid (decide_eq_false hin)
              have HCL4 : Hid (∀ e : World, Below wr.heap.size wr e → True) := Lib.hid fun _ _ => trivial
              rw [decide_eq_false hin, Bool.false_and] at hh
              have HH : Hid (hlT (lvT m lv most) m (ix r.body k) = false) := Lib.hid hh
              clear hh hin
              go_wp2_with (go_at_call 86; (with_reducible refine (inx_any _ m _ wr HSr.out.inf.in).mono ?_); rintro e w4 ⟨e4, hb4⟩; rw [HIN.out] at e4; subst e4; have HB4 := Lib.hid (bon HBr.out hb4); have HS4 := Lib.hid (HSr.out.on hb4); have kr4 := HS4.out.rbx.cell; rw [HSUM.out] at kr4; have kl4 := HS4.out.lbx.cell 0; have kc4 := HCL4.out _ hb4; have kw4 := HCW4.out _ hb4; clear hb4)
              go_ret
              exact ⟨ret_bool (HF.out.trans (by unfold avT; rw [HSUM.out, if_neg Bool.false_ne_true]; exact allR_false k hlt HH.out)).symm, bon HW0.out HB4.out⟩
        · obtain rfl : k = r.body.length := by omega
          have HAV : Hid (avT (lvT m lv most) m r = true) := Lib.hid (by unfold avT; rw [HSUM.out, if_neg Bool.false_ne_true]; exact allR_true HALL.out)
          go_wp2
          go_ret
          exact ⟨ret_bool (HF.out.trans HAV.out).symm, bon HW0.out HBr.out⟩
    | true =>
      have HSUM := Lib.hid hs
      have HWB : Hid (∀ k, k ≤ r.body.length → 0 ≤ avW (lvT m lv most) m r k ∧ avW (lvT m lv most) m r k ≤ 1048576 * k) := Lib.hid fun k hk => avW_bound HOKB.out hs k hk
      have HWL := Lib.hid (HOKB.out.wlen hs)
      have HW := Lib.hid (HOKB.out.w hs)
      rw [hs] at kr2
      clear hs
      go_wp2
      go_loopw [9, 32] (fun s i wx => DvRelT (lvT m lv most) m r W2 s i wx) (fun _ i _ => r.body.length - (intOf i).toNat)
      case atStart => exact ⟨0, Nat.zero_le _, rfl, rfl, Below.refl _ _⟩
      case round =>
        obtain ⟨k, hk, rfl, rfl, hbr⟩ := hrel
        have HBr := Lib.hid hbr
        have HSr := Lib.hid (HS2.out.on hbr)
        have krr := HSr.out.rbx.cell
        have kir := HSr.out.inf.box.cell 0
        rw [HSUM.out] at krr
        have hwb := HWB.out k hk
        clear hbr
        by_cases hlt : k < r.body.length
        · obtain ⟨bb, ob, rfl, hbb, hcb⟩ := HSr.out.rul.body.at hlt
          have hlit := HLT.out k hlt
          have hltw : k < r.w.length := by have := HWL.out; omega
          have hwk := HW.out k hltw
          obtain ⟨bw, ow, rfl, hbw, hcw⟩ := HSr.out.rul.wts.at hltw
          have HCW4 : Hid (∀ e : World, Below wr.heap.size wr e → e.cell? ⟨bw, ow + k, none⟩ = some (.int .i64 (ix r.w k))) := Lib.hid fun e he => (bcell he _ _ hbw).trans hcw
          clear hcw
          by_cases hneg : ix r.body k < 0
          · have hh := hl_neg (T := lvT m lv most) (m := m) hneg
            have HCL4 : Hid (∀ e : World, Below wr.heap.size wr e → True) := Lib.hid fun _ _ => trivial
            by_cases hin : -(ix r.body k) ∈ m
            · have HIN : Hid (decide (-(ix r.body k) ∈ m) = true) := Lib.hid (decide_eq_true hin)
              rw [decide_eq_true hin] at hh
              have HH : Hid (hlT (lvT m lv most) m (ix r.body k) = false) := Lib.hid hh
              clear hh hin
              have HQ2 : Hid (avW (lvT m lv most) m r (k + 1) = avW (lvT m lv most) m r k) := Lib.hid (by rw [avW, HH.out, if_neg Bool.false_ne_true, Int.add_zero])
              go_wp2_with (go_at_call 86; (with_reducible refine (inx_any _ m _ wr HSr.out.inf.in).mono ?_); rintro e w4 ⟨e4, hb4⟩; rw [HIN.out] at e4; subst e4; have HB4 := Lib.hid (bon HBr.out hb4); have HS4 := Lib.hid (HSr.out.on hb4); have kr4 := HS4.out.rbx.cell; rw [HSUM.out] at kr4; have kl4 := HS4.out.lbx.cell 0; have kc4 := HCL4.out _ hb4; have kw4 := HCW4.out _ hb4; clear hb4)
              first
                | (go_roundw
                   case rel => (exact ⟨k + 1, hlt, by go_num, by rw [HQ2.out], HB4.out⟩)
                   case measure => (simp [intOf]; omega))
                | (refine ⟨?_, ?_⟩
                   · (exact ⟨k + 1, hlt, by go_num, by rw [HQ2.out], HB4.out⟩)
                   · (simp [intOf]; omega))
            · have HIN : Hid (decide (-(ix r.body k) ∈ m) = false) := Lib.hid (decide_eq_false hin)
              rw [decide_eq_false hin] at hh
              have HH : Hid (hlT (lvT m lv most) m (ix r.body k) = true) := Lib.hid hh
              clear hh hin
              have HQ2 : Hid (avW (lvT m lv most) m r (k + 1) = avW (lvT m lv most) m r k + ix r.w k) := Lib.hid (by rw [avW, HH.out, if_pos rfl])
              go_wp2_with (go_at_call 86; (with_reducible refine (inx_any _ m _ wr HSr.out.inf.in).mono ?_); rintro e w4 ⟨e4, hb4⟩; rw [HIN.out] at e4; subst e4; have HB4 := Lib.hid (bon HBr.out hb4); have HS4 := Lib.hid (HSr.out.on hb4); have kr4 := HS4.out.rbx.cell; rw [HSUM.out] at kr4; have kl4 := HS4.out.lbx.cell 0; have kc4 := HCL4.out _ hb4; have kw4 := HCW4.out _ hb4; clear hb4)
              first
                | (go_roundw
                   case rel => (exact ⟨k + 1, hlt, by go_num, by rw [HQ2.out], HB4.out⟩)
                   case measure => (simp [intOf]; omega))
                | (refine ⟨?_, ?_⟩
                   · (exact ⟨k + 1, hlt, by go_num, by rw [HQ2.out], HB4.out⟩)
                   · (simp [intOf]; omega))
          · have hpos : 0 < ix r.body k := by have := HNZ.out k hlt; omega
            have hh := hl_pos (m := m) (lv := lv) (most := most) hpos
            by_cases hin : ix r.body k ∈ m
            · have HIN : Hid (decide (ix r.body k ∈ m) = true) := Lib.hid (decide_eq_true hin)
              rw [decide_eq_true hin, Bool.true_and] at hh
              have hr9 := HMR.out _ hin
              obtain ⟨bl, ol, rfl, hbl, hcl⟩ := HSr.out.lvs.at (show (ix r.body k).toNat < lv.length by omega)
              have HCL4 : Hid (∀ e : World, Below wr.heap.size wr e → e.cell? ⟨bl, ol + (ix r.body k).toNat, none⟩ = some (.int .i64 (ix lv (ix r.body k).toNat))) := Lib.hid fun e he => (bcell he _ _ hbl).trans hcl
              clear hin hcl
              by_cases hl1 : 1 ≤ ix lv (ix r.body k).toNat
              · by_cases hl2 : ix lv (ix r.body k).toNat ≤ most
                · rw [decide_eq_true hl1, decide_eq_true hl2] at hh
                  have HH : Hid (hlT (lvT m lv most) m (ix r.body k) = true) := Lib.hid hh
                  clear hh
                  have HQ2 : Hid (avW (lvT m lv most) m r (k + 1) = avW (lvT m lv most) m r k + ix r.w k) := Lib.hid (by rw [avW, HH.out, if_pos rfl])
                  go_wp2_with (go_at_call 86; (with_reducible refine (inx_any _ m _ wr HSr.out.inf.in).mono ?_); rintro e w4 ⟨e4, hb4⟩; rw [HIN.out] at e4; subst e4; have HB4 := Lib.hid (bon HBr.out hb4); have HS4 := Lib.hid (HSr.out.on hb4); have kr4 := HS4.out.rbx.cell; rw [HSUM.out] at kr4; have kl4 := HS4.out.lbx.cell 0; have kc4 := HCL4.out _ hb4; have kw4 := HCW4.out _ hb4; clear hb4)
                  first
                    | (go_roundw
                       case rel => (exact ⟨k + 1, hlt, by go_num, by rw [HQ2.out], HB4.out⟩)
                       case measure => (simp [intOf]; omega))
                    | (refine ⟨?_, ?_⟩
                       · (exact ⟨k + 1, hlt, by go_num, by rw [HQ2.out], HB4.out⟩)
                       · (simp [intOf]; omega))
                · have hd2 : decide (ix lv (ix r.body k).toNat ≤ most) = false := decide_eq_false hl2
                  have hl2' : most < ix lv (ix r.body k).toNat := by omega
                  rw [decide_eq_true hl1, decide_eq_false hl2] at hh
                  have HH : Hid (hlT (lvT m lv most) m (ix r.body k) = false) := Lib.hid hh
                  clear hh
                  have HQ2 : Hid (avW (lvT m lv most) m r (k + 1) = avW (lvT m lv most) m r k) := Lib.hid (by rw [avW, HH.out, if_neg Bool.false_ne_true, Int.add_zero])
                  go_wp2_with (go_at_call 86; (with_reducible refine (inx_any _ m _ wr HSr.out.inf.in).mono ?_); rintro e w4 ⟨e4, hb4⟩; rw [HIN.out] at e4; subst e4; have HB4 := Lib.hid (bon HBr.out hb4); have HS4 := Lib.hid (HSr.out.on hb4); have kr4 := HS4.out.rbx.cell; rw [HSUM.out] at kr4; have kl4 := HS4.out.lbx.cell 0; have kc4 := HCL4.out _ hb4; have kw4 := HCW4.out _ hb4; clear hb4)
                  first
                    | (go_roundw
                       case rel => (exact ⟨k + 1, hlt, by go_num, by rw [HQ2.out], HB4.out⟩)
                       case measure => (simp [intOf]; omega))
                    | (refine ⟨?_, ?_⟩
                       · (exact ⟨k + 1, hlt, by go_num, by rw [HQ2.out], HB4.out⟩)
                       · (simp [intOf]; omega))
              · rw [decide_eq_false hl1, Bool.false_and] at hh
                have HH : Hid (hlT (lvT m lv most) m (ix r.body k) = false) := Lib.hid hh
                clear hh
                have HQ2 : Hid (avW (lvT m lv most) m r (k + 1) = avW (lvT m lv most) m r k) := Lib.hid (by rw [avW, HH.out, if_neg Bool.false_ne_true, Int.add_zero])
                go_wp2_with (go_at_call 86; (with_reducible refine (inx_any _ m _ wr HSr.out.inf.in).mono ?_); rintro e w4 ⟨e4, hb4⟩; rw [HIN.out] at e4; subst e4; have HB4 := Lib.hid (bon HBr.out hb4); have HS4 := Lib.hid (HSr.out.on hb4); have kr4 := HS4.out.rbx.cell; rw [HSUM.out] at kr4; have kl4 := HS4.out.lbx.cell 0; have kc4 := HCL4.out _ hb4; have kw4 := HCW4.out _ hb4; clear hb4)
                first
                  | (go_roundw
                     case rel => (exact ⟨k + 1, hlt, by go_num, by rw [HQ2.out], HB4.out⟩)
                     case measure => (simp [intOf]; omega))
                  | (refine ⟨?_, ?_⟩
                     · (exact ⟨k + 1, hlt, by go_num, by rw [HQ2.out], HB4.out⟩)
                     · (simp [intOf]; omega))
            · have HIN : Hid (decide (ix r.body k ∈ m) = false) := Lib.hid (decide_eq_false hin)
              have HCL4 : Hid (∀ e : World, Below wr.heap.size wr e → True) := Lib.hid fun _ _ => trivial
              rw [decide_eq_false hin, Bool.false_and] at hh
              have HH : Hid (hlT (lvT m lv most) m (ix r.body k) = false) := Lib.hid hh
              clear hh hin
              have HQ2 : Hid (avW (lvT m lv most) m r (k + 1) = avW (lvT m lv most) m r k) := Lib.hid (by rw [avW, HH.out, if_neg Bool.false_ne_true, Int.add_zero])
              go_wp2_with (go_at_call 86; (with_reducible refine (inx_any _ m _ wr HSr.out.inf.in).mono ?_); rintro e w4 ⟨e4, hb4⟩; rw [HIN.out] at e4; subst e4; have HB4 := Lib.hid (bon HBr.out hb4); have HS4 := Lib.hid (HSr.out.on hb4); have kr4 := HS4.out.rbx.cell; rw [HSUM.out] at kr4; have kl4 := HS4.out.lbx.cell 0; have kc4 := HCL4.out _ hb4; have kw4 := HCW4.out _ hb4; clear hb4)
              first
                | (go_roundw
                   case rel => (exact ⟨k + 1, hlt, by go_num, by rw [HQ2.out], HB4.out⟩)
                   case measure => (simp [intOf]; omega))
                | (refine ⟨?_, ?_⟩
                   · (exact ⟨k + 1, hlt, by go_num, by rw [HQ2.out], HB4.out⟩)
                   · (simp [intOf]; omega))
        · obtain rfl : k = r.body.length := by omega
          have HAV : Hid (avT (lvT m lv most) m r = decide (r.bound ≤ avW (lvT m lv most) m r r.body.length)) := Lib.hid (by unfold avT; rw [HSUM.out, if_pos rfl])
          go_wp2
          go_ret
          exact ⟨ret_bool (HF.out.trans HAV.out).symm, bon HW0.out HBr.out⟩
  | false =>
    rw [hc] at kr0
    cases han : anyR r.head.length (fun j => decide (ix r.head j ≠ a) && decide (ix r.head j ∈ m)) with
    | true =>
      have HAN := Lib.hid han
      have HF : Hid (derT (lvT m lv most) m r a = false) := Lib.hid (by unfold derT soleB; rw [hc, han]; simp)
      clear hc han
      go_wp2_with (first | (go_at_call 45; (with_reducible refine (contains_any _ r.head a _ HS0.out.rul.head).mono ?_); rintro e w1 ⟨e1, rfl⟩; rw [HHD.out] at e1; subst e1) | (go_at_call 76; (with_reducible refine (ctn_xo _ r.head _ HS0.out.rul.head (fun j => decide (ix r.head j ≠ a) && decide (ix r.head j ∈ m)) _ _ (fun w' hb j hj => other_any _ a m _ ib mb w' (HS0.out.abx.below hb) (HS0.out.inf.below hb))).mono ?_); rintro e W2 ⟨e2, hb2⟩; rw [HAN.out] at e2; subst e2; have HS2 := Lib.hid (HS0.out.on hb2); have HW0 := Lib.hid (bon HWA.out hb2); have kr2 := HS2.out.rbx.cell; clear hb2))
      go_ret
      exact ⟨ret_bool HF.out.symm, HW0.out⟩
    | false =>
      have HAN := Lib.hid han
      have HF : Hid (derT (lvT m lv most) m r a = avT (lvT m lv most) m r) := Lib.hid (by unfold derT soleB; rw [HHD.out, hc, han]; rfl)
      clear hc han
      go_upto_region 4 with (first | (go_at_call 45; (with_reducible refine (contains_any _ r.head a _ HS0.out.rul.head).mono ?_); rintro e w1 ⟨e1, rfl⟩; rw [HHD.out] at e1; subst e1) | (go_at_call 76; (with_reducible refine (ctn_xo _ r.head _ HS0.out.rul.head (fun j => decide (ix r.head j ≠ a) && decide (ix r.head j ∈ m)) _ _ (fun w' hb j hj => other_any _ a m _ ib mb w' (HS0.out.abx.below hb) (HS0.out.inf.below hb))).mono ?_); rintro e W2 ⟨e2, hb2⟩; rw [HAN.out] at e2; subst e2; have HS2 := Lib.hid (HS0.out.on hb2); have HW0 := Lib.hid (bon HWA.out hb2); have kr2 := HS2.out.rbx.cell; clear hb2))
      clear kr0 ka0
      cases hs : r.sum with
      | false =>
        have HSUM := Lib.hid hs
        have hb0 := HBD.out hs
        rw [hs] at kr2
        clear hs
        go_wp2
        go_loopw [9, 32] (fun s i wx => DvRelF (lvT m lv most) m r W2 s i wx) (fun _ i _ => r.body.length - (intOf i).toNat)
        case atStart => exact ⟨0, Nat.zero_le _, rfl, rfl, fun j hj => absurd hj (Nat.not_lt_zero _), Below.refl _ _⟩
        case round =>
          obtain ⟨k, hk, rfl, rfl, hall, hbr⟩ := hrel
          have HALL := Lib.hid hall
          have HBr := Lib.hid hbr
          have HSr := Lib.hid (HS2.out.on hbr)
          have krr := HSr.out.rbx.cell
          have kir := HSr.out.inf.box.cell 0
          rw [HSUM.out] at krr
          clear hall hbr
          by_cases hlt : k < r.body.length
          · obtain ⟨bb, ob, rfl, hbb, hcb⟩ := HSr.out.rul.body.at hlt
            have hlit := HLT.out k hlt
            have HCW4 : Hid (∀ e : World, Below wr.heap.size wr e → True) := Lib.hid fun _ _ => trivial
            by_cases hneg : ix r.body k < 0
            · have hh := hl_neg (T := lvT m lv most) (m := m) hneg
              have HCL4 : Hid (∀ e : World, Below wr.heap.size wr e → True) := Lib.hid fun _ _ => trivial
              by_cases hin : -(ix r.body k) ∈ m
              · have HIN : Hid (decide (-(ix r.body k) ∈ m) = true) := Lib.hid (decide_eq_true hin)
                rw [decide_eq_true hin] at hh
                have HH : Hid (hlT (lvT m lv most) m (ix r.body k) = false) := Lib.hid hh
                clear hh hin
                go_wp2_with (go_at_call 86; (with_reducible refine (inx_any _ m _ wr HSr.out.inf.in).mono ?_); rintro e w4 ⟨e4, hb4⟩; rw [HIN.out] at e4; subst e4; have HB4 := Lib.hid (bon HBr.out hb4); have HS4 := Lib.hid (HSr.out.on hb4); have kr4 := HS4.out.rbx.cell; rw [HSUM.out] at kr4; have kl4 := HS4.out.lbx.cell 0; have kc4 := HCL4.out _ hb4; have kw4 := HCW4.out _ hb4; clear hb4)
                go_ret
                exact ⟨ret_bool (HF.out.trans (by unfold avT; rw [HSUM.out, if_neg Bool.false_ne_true]; exact allR_false k hlt HH.out)).symm, bon HW0.out HB4.out⟩
              · have HIN : Hid (decide (-(ix r.body k) ∈ m) = false) := Lib.hid (decide_eq_false hin)
                rw [decide_eq_false hin] at hh
                have HH : Hid (hlT (lvT m lv most) m (ix r.body k) = true) := Lib.hid hh
                clear hh hin
                have HALL2 : Hid (∀ j, j < k + 1 → hlT (lvT m lv most) m (ix r.body j) = true) := Lib.hid fun j hj => (if e : j = k then e ▸ HH.out else HALL.out j (by omega))
                go_wp2_with (go_at_call 86; (with_reducible refine (inx_any _ m _ wr HSr.out.inf.in).mono ?_); rintro e w4 ⟨e4, hb4⟩; rw [HIN.out] at e4; subst e4; have HB4 := Lib.hid (bon HBr.out hb4); have HS4 := Lib.hid (HSr.out.on hb4); have kr4 := HS4.out.rbx.cell; rw [HSUM.out] at kr4; have kl4 := HS4.out.lbx.cell 0; have kc4 := HCL4.out _ hb4; have kw4 := HCW4.out _ hb4; clear hb4)
                first
                  | (go_roundw
                     case rel => (exact ⟨k + 1, hlt, by go_num, rfl, HALL2.out, HB4.out⟩)
                     case measure => (simp [intOf]; omega))
                  | (refine ⟨?_, ?_⟩
                     · (exact ⟨k + 1, hlt, by go_num, rfl, HALL2.out, HB4.out⟩)
                     · (simp [intOf]; omega))
            · have hpos : 0 < ix r.body k := by have := HNZ.out k hlt; omega
              have hh := hl_pos (m := m) (lv := lv) (most := most) hpos
              by_cases hin : ix r.body k ∈ m
              · have HIN : Hid (decide (ix r.body k ∈ m) = true) := Lib.hid (decide_eq_true hin)
                rw [decide_eq_true hin, Bool.true_and] at hh
                have hr9 := HMR.out _ hin
                obtain ⟨bl, ol, rfl, hbl, hcl⟩ := HSr.out.lvs.at (show (ix r.body k).toNat < lv.length by omega)
                have HCL4 : Hid (∀ e : World, Below wr.heap.size wr e → e.cell? ⟨bl, ol + (ix r.body k).toNat, none⟩ = some (.int .i64 (ix lv (ix r.body k).toNat))) := Lib.hid fun e he => (bcell he _ _ hbl).trans hcl
                clear hin hcl
                by_cases hl1 : 1 ≤ ix lv (ix r.body k).toNat
                · by_cases hl2 : ix lv (ix r.body k).toNat ≤ most
                  · rw [decide_eq_true hl1, decide_eq_true hl2] at hh
                    have HH : Hid (hlT (lvT m lv most) m (ix r.body k) = true) := Lib.hid hh
                    clear hh
                    have HALL2 : Hid (∀ j, j < k + 1 → hlT (lvT m lv most) m (ix r.body j) = true) := Lib.hid fun j hj => (if e : j = k then e ▸ HH.out else HALL.out j (by omega))
                    go_wp2_with (go_at_call 86; (with_reducible refine (inx_any _ m _ wr HSr.out.inf.in).mono ?_); rintro e w4 ⟨e4, hb4⟩; rw [HIN.out] at e4; subst e4; have HB4 := Lib.hid (bon HBr.out hb4); have HS4 := Lib.hid (HSr.out.on hb4); have kr4 := HS4.out.rbx.cell; rw [HSUM.out] at kr4; have kl4 := HS4.out.lbx.cell 0; have kc4 := HCL4.out _ hb4; have kw4 := HCW4.out _ hb4; clear hb4)
                    first
                      | (go_roundw
                         case rel => (exact ⟨k + 1, hlt, by go_num, rfl, HALL2.out, HB4.out⟩)
                         case measure => (simp [intOf]; omega))
                      | (refine ⟨?_, ?_⟩
                         · (exact ⟨k + 1, hlt, by go_num, rfl, HALL2.out, HB4.out⟩)
                         · (simp [intOf]; omega))
                  · have hd2 : decide (ix lv (ix r.body k).toNat ≤ most) = false := decide_eq_false hl2
                    have hl2' : most < ix lv (ix r.body k).toNat := by omega
                    rw [decide_eq_true hl1, decide_eq_false hl2] at hh
                    have HH : Hid (hlT (lvT m lv most) m (ix r.body k) = false) := Lib.hid hh
                    clear hh
                    go_wp2_with (go_at_call 86; (with_reducible refine (inx_any _ m _ wr HSr.out.inf.in).mono ?_); rintro e w4 ⟨e4, hb4⟩; rw [HIN.out] at e4; subst e4; have HB4 := Lib.hid (bon HBr.out hb4); have HS4 := Lib.hid (HSr.out.on hb4); have kr4 := HS4.out.rbx.cell; rw [HSUM.out] at kr4; have kl4 := HS4.out.lbx.cell 0; have kc4 := HCL4.out _ hb4; have kw4 := HCW4.out _ hb4; clear hb4)
                    go_ret
                    exact ⟨ret_bool (HF.out.trans (by unfold avT; rw [HSUM.out, if_neg Bool.false_ne_true]; exact allR_false k hlt HH.out)).symm, bon HW0.out HB4.out⟩
                · rw [decide_eq_false hl1, Bool.false_and] at hh
                  have HH : Hid (hlT (lvT m lv most) m (ix r.body k) = false) := Lib.hid hh
                  clear hh
                  go_wp2_with (go_at_call 86; (with_reducible refine (inx_any _ m _ wr HSr.out.inf.in).mono ?_); rintro e w4 ⟨e4, hb4⟩; rw [HIN.out] at e4; subst e4; have HB4 := Lib.hid (bon HBr.out hb4); have HS4 := Lib.hid (HSr.out.on hb4); have kr4 := HS4.out.rbx.cell; rw [HSUM.out] at kr4; have kl4 := HS4.out.lbx.cell 0; have kc4 := HCL4.out _ hb4; have kw4 := HCW4.out _ hb4; clear hb4)
                  go_ret
                  exact ⟨ret_bool (HF.out.trans (by unfold avT; rw [HSUM.out, if_neg Bool.false_ne_true]; exact allR_false k hlt HH.out)).symm, bon HW0.out HB4.out⟩
              · have HIN : Hid (decide (ix r.body k ∈ m) = false) := Lib.hid (decide_eq_false hin)
                have HCL4 : Hid (∀ e : World, Below wr.heap.size wr e → True) := Lib.hid fun _ _ => trivial
                rw [decide_eq_false hin, Bool.false_and] at hh
                have HH : Hid (hlT (lvT m lv most) m (ix r.body k) = false) := Lib.hid hh
                clear hh hin
                go_wp2_with (go_at_call 86; (with_reducible refine (inx_any _ m _ wr HSr.out.inf.in).mono ?_); rintro e w4 ⟨e4, hb4⟩; rw [HIN.out] at e4; subst e4; have HB4 := Lib.hid (bon HBr.out hb4); have HS4 := Lib.hid (HSr.out.on hb4); have kr4 := HS4.out.rbx.cell; rw [HSUM.out] at kr4; have kl4 := HS4.out.lbx.cell 0; have kc4 := HCL4.out _ hb4; have kw4 := HCW4.out _ hb4; clear hb4)
                go_ret
                exact ⟨ret_bool (HF.out.trans (by unfold avT; rw [HSUM.out, if_neg Bool.false_ne_true]; exact allR_false k hlt HH.out)).symm, bon HW0.out HB4.out⟩
          · obtain rfl : k = r.body.length := by omega
            have HAV : Hid (avT (lvT m lv most) m r = true) := Lib.hid (by unfold avT; rw [HSUM.out, if_neg Bool.false_ne_true]; exact allR_true HALL.out)
            go_wp2
            go_ret
            exact ⟨ret_bool (HF.out.trans HAV.out).symm, bon HW0.out HBr.out⟩
      | true =>
        have HSUM := Lib.hid hs
        have HWB : Hid (∀ k, k ≤ r.body.length → 0 ≤ avW (lvT m lv most) m r k ∧ avW (lvT m lv most) m r k ≤ 1048576 * k) := Lib.hid fun k hk => avW_bound HOKB.out hs k hk
        have HWL := Lib.hid (HOKB.out.wlen hs)
        have HW := Lib.hid (HOKB.out.w hs)
        rw [hs] at kr2
        clear hs
        go_wp2
        go_loopw [9, 32] (fun s i wx => DvRelT (lvT m lv most) m r W2 s i wx) (fun _ i _ => r.body.length - (intOf i).toNat)
        case atStart => exact ⟨0, Nat.zero_le _, rfl, rfl, Below.refl _ _⟩
        case round =>
          obtain ⟨k, hk, rfl, rfl, hbr⟩ := hrel
          have HBr := Lib.hid hbr
          have HSr := Lib.hid (HS2.out.on hbr)
          have krr := HSr.out.rbx.cell
          have kir := HSr.out.inf.box.cell 0
          rw [HSUM.out] at krr
          have hwb := HWB.out k hk
          clear hbr
          by_cases hlt : k < r.body.length
          · obtain ⟨bb, ob, rfl, hbb, hcb⟩ := HSr.out.rul.body.at hlt
            have hlit := HLT.out k hlt
            have hltw : k < r.w.length := by have := HWL.out; omega
            have hwk := HW.out k hltw
            obtain ⟨bw, ow, rfl, hbw, hcw⟩ := HSr.out.rul.wts.at hltw
            have HCW4 : Hid (∀ e : World, Below wr.heap.size wr e → e.cell? ⟨bw, ow + k, none⟩ = some (.int .i64 (ix r.w k))) := Lib.hid fun e he => (bcell he _ _ hbw).trans hcw
            clear hcw
            by_cases hneg : ix r.body k < 0
            · have hh := hl_neg (T := lvT m lv most) (m := m) hneg
              have HCL4 : Hid (∀ e : World, Below wr.heap.size wr e → True) := Lib.hid fun _ _ => trivial
              by_cases hin : -(ix r.body k) ∈ m
              · have HIN : Hid (decide (-(ix r.body k) ∈ m) = true) := Lib.hid (decide_eq_true hin)
                rw [decide_eq_true hin] at hh
                have HH : Hid (hlT (lvT m lv most) m (ix r.body k) = false) := Lib.hid hh
                clear hh hin
                have HQ2 : Hid (avW (lvT m lv most) m r (k + 1) = avW (lvT m lv most) m r k) := Lib.hid (by rw [avW, HH.out, if_neg Bool.false_ne_true, Int.add_zero])
                go_wp2_with (go_at_call 86; (with_reducible refine (inx_any _ m _ wr HSr.out.inf.in).mono ?_); rintro e w4 ⟨e4, hb4⟩; rw [HIN.out] at e4; subst e4; have HB4 := Lib.hid (bon HBr.out hb4); have HS4 := Lib.hid (HSr.out.on hb4); have kr4 := HS4.out.rbx.cell; rw [HSUM.out] at kr4; have kl4 := HS4.out.lbx.cell 0; have kc4 := HCL4.out _ hb4; have kw4 := HCW4.out _ hb4; clear hb4)
                first
                  | (go_roundw
                     case rel => (exact ⟨k + 1, hlt, by go_num, by rw [HQ2.out], HB4.out⟩)
                     case measure => (simp [intOf]; omega))
                  | (refine ⟨?_, ?_⟩
                     · (exact ⟨k + 1, hlt, by go_num, by rw [HQ2.out], HB4.out⟩)
                     · (simp [intOf]; omega))
              · have HIN : Hid (decide (-(ix r.body k) ∈ m) = false) := Lib.hid (decide_eq_false hin)
                rw [decide_eq_false hin] at hh
                have HH : Hid (hlT (lvT m lv most) m (ix r.body k) = true) := Lib.hid hh
                clear hh hin
                have HQ2 : Hid (avW (lvT m lv most) m r (k + 1) = avW (lvT m lv most) m r k + ix r.w k) := Lib.hid (by rw [avW, HH.out, if_pos rfl])
                go_wp2_with (go_at_call 86; (with_reducible refine (inx_any _ m _ wr HSr.out.inf.in).mono ?_); rintro e w4 ⟨e4, hb4⟩; rw [HIN.out] at e4; subst e4; have HB4 := Lib.hid (bon HBr.out hb4); have HS4 := Lib.hid (HSr.out.on hb4); have kr4 := HS4.out.rbx.cell; rw [HSUM.out] at kr4; have kl4 := HS4.out.lbx.cell 0; have kc4 := HCL4.out _ hb4; have kw4 := HCW4.out _ hb4; clear hb4)
                first
                  | (go_roundw
                     case rel => (exact ⟨k + 1, hlt, by go_num, by rw [HQ2.out], HB4.out⟩)
                     case measure => (simp [intOf]; omega))
                  | (refine ⟨?_, ?_⟩
                     · (exact ⟨k + 1, hlt, by go_num, by rw [HQ2.out], HB4.out⟩)
                     · (simp [intOf]; omega))
            · have hpos : 0 < ix r.body k := by have := HNZ.out k hlt; omega
              have hh := hl_pos (m := m) (lv := lv) (most := most) hpos
              by_cases hin : ix r.body k ∈ m
              · have HIN : Hid (decide (ix r.body k ∈ m) = true) := Lib.hid (decide_eq_true hin)
                rw [decide_eq_true hin, Bool.true_and] at hh
                have hr9 := HMR.out _ hin
                obtain ⟨bl, ol, rfl, hbl, hcl⟩ := HSr.out.lvs.at (show (ix r.body k).toNat < lv.length by omega)
                have HCL4 : Hid (∀ e : World, Below wr.heap.size wr e → e.cell? ⟨bl, ol + (ix r.body k).toNat, none⟩ = some (.int .i64 (ix lv (ix r.body k).toNat))) := Lib.hid fun e he => (bcell he _ _ hbl).trans hcl
                clear hin hcl
                by_cases hl1 : 1 ≤ ix lv (ix r.body k).toNat
                · by_cases hl2 : ix lv (ix r.body k).toNat ≤ most
                  · rw [decide_eq_true hl1, decide_eq_true hl2] at hh
                    have HH : Hid (hlT (lvT m lv most) m (ix r.body k) = true) := Lib.hid hh
                    clear hh
                    have HQ2 : Hid (avW (lvT m lv most) m r (k + 1) = avW (lvT m lv most) m r k + ix r.w k) := Lib.hid (by rw [avW, HH.out, if_pos rfl])
                    go_wp2_with (go_at_call 86; (with_reducible refine (inx_any _ m _ wr HSr.out.inf.in).mono ?_); rintro e w4 ⟨e4, hb4⟩; rw [HIN.out] at e4; subst e4; have HB4 := Lib.hid (bon HBr.out hb4); have HS4 := Lib.hid (HSr.out.on hb4); have kr4 := HS4.out.rbx.cell; rw [HSUM.out] at kr4; have kl4 := HS4.out.lbx.cell 0; have kc4 := HCL4.out _ hb4; have kw4 := HCW4.out _ hb4; clear hb4)
                    first
                      | (go_roundw
                         case rel => (exact ⟨k + 1, hlt, by go_num, by rw [HQ2.out], HB4.out⟩)
                         case measure => (simp [intOf]; omega))
                      | (refine ⟨?_, ?_⟩
                         · (exact ⟨k + 1, hlt, by go_num, by rw [HQ2.out], HB4.out⟩)
                         · (simp [intOf]; omega))
                  · have hd2 : decide (ix lv (ix r.body k).toNat ≤ most) = false := decide_eq_false hl2
                    have hl2' : most < ix lv (ix r.body k).toNat := by omega
                    rw [decide_eq_true hl1, decide_eq_false hl2] at hh
                    have HH : Hid (hlT (lvT m lv most) m (ix r.body k) = false) := Lib.hid hh
                    clear hh
                    have HQ2 : Hid (avW (lvT m lv most) m r (k + 1) = avW (lvT m lv most) m r k) := Lib.hid (by rw [avW, HH.out, if_neg Bool.false_ne_true, Int.add_zero])
                    go_wp2_with (go_at_call 86; (with_reducible refine (inx_any _ m _ wr HSr.out.inf.in).mono ?_); rintro e w4 ⟨e4, hb4⟩; rw [HIN.out] at e4; subst e4; have HB4 := Lib.hid (bon HBr.out hb4); have HS4 := Lib.hid (HSr.out.on hb4); have kr4 := HS4.out.rbx.cell; rw [HSUM.out] at kr4; have kl4 := HS4.out.lbx.cell 0; have kc4 := HCL4.out _ hb4; have kw4 := HCW4.out _ hb4; clear hb4)
                    first
                      | (go_roundw
                         case rel => (exact ⟨k + 1, hlt, by go_num, by rw [HQ2.out], HB4.out⟩)
                         case measure => (simp [intOf]; omega))
                      | (refine ⟨?_, ?_⟩
                         · (exact ⟨k + 1, hlt, by go_num, by rw [HQ2.out], HB4.out⟩)
                         · (simp [intOf]; omega))
                · rw [decide_eq_false hl1, Bool.false_and] at hh
                  have HH : Hid (hlT (lvT m lv most) m (ix r.body k) = false) := Lib.hid hh
                  clear hh
                  have HQ2 : Hid (avW (lvT m lv most) m r (k + 1) = avW (lvT m lv most) m r k) := Lib.hid (by rw [avW, HH.out, if_neg Bool.false_ne_true, Int.add_zero])
                  go_wp2_with (go_at_call 86; (with_reducible refine (inx_any _ m _ wr HSr.out.inf.in).mono ?_); rintro e w4 ⟨e4, hb4⟩; rw [HIN.out] at e4; subst e4; have HB4 := Lib.hid (bon HBr.out hb4); have HS4 := Lib.hid (HSr.out.on hb4); have kr4 := HS4.out.rbx.cell; rw [HSUM.out] at kr4; have kl4 := HS4.out.lbx.cell 0; have kc4 := HCL4.out _ hb4; have kw4 := HCW4.out _ hb4; clear hb4)
                  first
                    | (go_roundw
                       case rel => (exact ⟨k + 1, hlt, by go_num, by rw [HQ2.out], HB4.out⟩)
                       case measure => (simp [intOf]; omega))
                    | (refine ⟨?_, ?_⟩
                       · (exact ⟨k + 1, hlt, by go_num, by rw [HQ2.out], HB4.out⟩)
                       · (simp [intOf]; omega))
              · have HIN : Hid (decide (ix r.body k ∈ m) = false) := Lib.hid (decide_eq_false hin)
                have HCL4 : Hid (∀ e : World, Below wr.heap.size wr e → True) := Lib.hid fun _ _ => trivial
                rw [decide_eq_false hin, Bool.false_and] at hh
                have HH : Hid (hlT (lvT m lv most) m (ix r.body k) = false) := Lib.hid hh
                clear hh hin
                have HQ2 : Hid (avW (lvT m lv most) m r (k + 1) = avW (lvT m lv most) m r k) := Lib.hid (by rw [avW, HH.out, if_neg Bool.false_ne_true, Int.add_zero])
                go_wp2_with (go_at_call 86; (with_reducible refine (inx_any _ m _ wr HSr.out.inf.in).mono ?_); rintro e w4 ⟨e4, hb4⟩; rw [HIN.out] at e4; subst e4; have HB4 := Lib.hid (bon HBr.out hb4); have HS4 := Lib.hid (HSr.out.on hb4); have kr4 := HS4.out.rbx.cell; rw [HSUM.out] at kr4; have kl4 := HS4.out.lbx.cell 0; have kc4 := HCL4.out _ hb4; have kw4 := HCW4.out _ hb4; clear hb4)
                first
                  | (go_roundw
                     case rel => (exact ⟨k + 1, hlt, by go_num, by rw [HQ2.out], HB4.out⟩)
                     case measure => (simp [intOf]; omega))
                  | (refine ⟨?_, ?_⟩
                     · (exact ⟨k + 1, hlt, by go_num, by rw [HQ2.out], HB4.out⟩)
                     · (simp [intOf]; omega))
          · obtain rfl : k = r.body.length := by omega
            have HAV : Hid (avT (lvT m lv most) m r = decide (r.bound ≤ avW (lvT m lv most) m r r.body.length)) := Lib.hid (by unfold avT; rw [HSUM.out, if_pos rfl])
            go_wp2
            go_ret
            exact ⟨ret_bool (HF.out.trans HAV.out).symm, bon HW0.out HBr.out⟩
end Go.Proofs.YtgakoainjgjimaaGreatDoor
