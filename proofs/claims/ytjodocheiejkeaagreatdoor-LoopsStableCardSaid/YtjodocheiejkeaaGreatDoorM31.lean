/- My texts Su26, Us27, Ls27, merged. -/
import Derived.Test.YtjodocheiejkeaaGreatDoorM12
import Derived.Test.YtjodocheiejkeaaGreatDoorM08
import Derived.Test.YtjodocheiejkeaaGreatDoorM22
import Derived.Test.YtjodocheiejkeaaGreatDoorM04
import Derived.Test.YtjodocheiejkeaaGreatDoorM03
import Derived.Test.YtjodocheiejkeaaGreatDoorM02
import Derived.Test.YtjodocheiejkeaaGreatDoorM00
import Derived.Test.YtjodocheiejkeaaGreatDoorProg
import Derived.WalkKit
import Derived.Lib.Hide
import Derived.Deep.QuietTactic
import Derived.BigQuiet
import Derived.WalkSpells
import Derived.Lib.SliceRun
import Derived.MapKept
import Derived.Maps.OwnSet
import Derived.Maps.OwnOps
import Derived.Test.YtjodocheiejkeaaGreatDoorM01
import Derived.Deep.AppendLies
import Derived.Lib.Bytealg
import Derived.Test.YtjodocheiejkeaaGreatDoorM05
import Derived.Deep.DeepCutAuto
import Derived.Test.YtjodocheiejkeaaGreatDoorM07
import Derived.Test.YtjodocheiejkeaaGreatDoorM29
import Derived.Test.YtjodocheiejkeaaGreatDoorM06
import Derived.Laws.EntriesVeiled
import Derived.Deep.RegionWith
import Derived.Test.YtjodocheiejkeaaGreatDoorM24
import Derived.Test.YtjodocheiejkeaaGreatDoorM23
import Derived.RangeFuncNested
import Derived.RangeFuncBound
import Derived.RangeFuncCalls
import Derived.RangeFuncLeaves
import Derived.OwnWalkIn
import Derived.TacticsInMore
import Derived.LoopNIn
import Derived.LoopIn
import Derived.Stop.RegionWithIn
import Derived.Shelf.Abstract
import Derived.Deep.OwnRows
import Derived.Shelf.Sort.Plain
import Derived.Shelf.Slices.CompactI
import Derived.Shelf.Slices.In.SortNone
import Derived.Shelf.Strconv.Itoa3
import Derived.Shelf.Strings.BuilderK
import Derived.Sort.QuietThIn
import Derived.Test.YtjodocheiejkeaaGreatDoorM11
import Derived.Test.YtjodocheiejkeaaGreatDoorM10
import Derived.Test.YtjodocheiejkeaaGreatDoorM09
import Derived.Maps.RangeWalk
import Derived.Lib.SlicesCompact
import Derived.Sort.OwnSortedInts
import Derived.RangeFuncBox
import Derived.Maps.OwnIn
import Derived.Lib.RowBridge
import Derived.Deep.AppendSrc
import Derived.Deep.DeepMust
import Derived.Test.YtjodocheiejkeaaGreatDoorM25
import Derived.Test.YtjodocheiejkeaaGreatDoorM26
import Derived.ProofKit
import Derived.OpenShut
import Derived.ChangeArms
import Derived.SizedLaws
import Derived.Test.YtjodocheiejkeaaGreatDoorM17
import Derived.Test.YtjodocheiejkeaaGreatDoorM16
import Derived.Test.YtjodocheiejkeaaGreatDoorM15
import Derived.Test.YtjodocheiejkeaaGreatDoorM14
import Derived.Test.YtjodocheiejkeaaGreatDoorM13
import Derived.Deep.LoopGhost
import Derived.Deep.DrawnRows
import Derived.Test.YtjodocheiejkeaaGreatDoorM21
import Derived.Shelf.SlSortCmp.Kit1
import Derived.RangeFuncOwn
import Derived.Test.YtjodocheiejkeaaGreatDoorM20
import Derived.Test.YtjodocheiejkeaaGreatDoorM18
import Derived.Deep.RegionHeld3
import Derived.Laws.ResultCell
import Derived.Laws.Rows
import Derived.Deep.RegionLaw
import Derived.Test.YtjodocheiejkeaaGreatDoorM19
import Derived.Sort.CutIn
import Derived.Shelf.SlSortCmp.NoneTotal
import Derived.Shelf.SlLaysF
import Derived.Test.YtjodocheiejkeaaGreatDoorM27

namespace Go.Proofs.YtjodocheiejkeaaGreatDoor
open Go.RowKit
theorem sh_wrap : ∀ N : Nat, N < 13 → wrap64 (2 ^ N) = ((2 ^ N : Nat) : Int) ∧ 2 ^ N ≤ 4096 := by
  intro N hN
  have h2 : 2 ^ N ≤ 2 ^ 12 := Nat.pow_le_pow_right (by omega) (by omega)
  have h3 : (2 : Int) ^ N = ((2 ^ N : Nat) : Int) := by push_cast; rfl
  refine ⟨?_, by omega⟩
  rw [h3]
  generalize 2 ^ N = T at *
  unfold wrap64
  omega
theorem and_nat {a b : Nat} (ha : a < 2 ^ 32) (hb : b < 2 ^ 32) : Go.bits .and .i64 (a : Int) (b : Int) = ((a &&& b : Nat) : Int) := by
  have hle : a &&& b ≤ a := Nat.and_le_left
  unfold Go.bits
  simp only [BitVec.toNat_and, BitVec.toNat_ofInt]
  have e2 : ((2 ^ IntKind.i64.bits : Nat) : Int) = 18446744073709551616 := by decide
  rw [e2]
  have e3 : ((a : Int) % 18446744073709551616).toNat = a := by omega
  have e4 : ((b : Int) % 18446744073709551616).toNat = b := by omega
  rw [e3, e4, IntKind.wrap_i64]
  omega
theorem or_nat {a b : Nat} (ha : a < 2 ^ 32) (hb : b < 2 ^ 32) : Go.bits .or .i64 (a : Int) (b : Int) = ((a ||| b : Nat) : Int) := by
  have hle : a ||| b < 2 ^ 32 := Nat.or_lt_two_pow ha hb
  unfold Go.bits
  simp only [BitVec.toNat_or, BitVec.toNat_ofInt]
  have e2 : ((2 ^ IntKind.i64.bits : Nat) : Int) = 18446744073709551616 := by decide
  rw [e2]
  have e3 : ((a : Int) % 18446744073709551616).toNat = a := by omega
  have e4 : ((b : Int) % 18446744073709551616).toNat = b := by omega
  rw [e3, e4, IntKind.wrap_i64]
  omega
theorem sub_keep {s bits : Nat} : ((s - 1) &&& bits) &&& bits = (s - 1) &&& bits := by
  rw [Nat.and_assoc, Nat.and_self]
theorem perm_map {α β : Type} (f : α → β) : ∀ {l r : List β}, l.Perm r → ∀ ks : List α, r = ks.map f → ∃ ks' : List α, ks'.Perm ks ∧ l = ks'.map f := by
  intro l r h
  induction h with
  | nil => intro ks e; exact ⟨ks, .refl _, e⟩
  | cons x h ih =>
    intro ks e
    cases ks with
    | nil => cases e
    | cons k ks =>
      rw [List.map_cons, List.cons.injEq] at e
      obtain ⟨k2, h1, h2⟩ := ih ks e.2
      exact ⟨k :: k2, h1.cons _, by rw [List.map_cons, e.1, h2]⟩
  | swap x y l =>
    intro ks e
    match ks, e with
    | a :: b :: ks, e =>
      rw [List.map_cons, List.map_cons, List.cons.injEq, List.cons.injEq] at e
      exact ⟨b :: a :: ks, .swap _ _ _, by rw [List.map_cons, List.map_cons, e.1, e.2.1, e.2.2]⟩
  | trans _ _ i1 i2 =>
    intro ks e
    obtain ⟨k2, h1, h2⟩ := i2 ks e
    obtain ⟨k3, h3, h4⟩ := i1 k2 h2
    exact ⟨k3, h3.trans h1, h4⟩
theorem AllOf.keys {P : List Int → Prop} {n : Nat} {LL : List (List Int)} (h : AllOf P n LL) : ∃ ks : List Nat, ks.Nodup ∧ (∀ k, k ∈ ks ↔ k < 2 ^ n ∧ P (subL k n)) ∧ LL = ks.map fun (k : Nat) => subL k n := by
  obtain ⟨ks, h1, h2, h3⟩ := h
  obtain ⟨k2, h4, h5⟩ := perm_map _ h3 ks rfl
  refine ⟨k2, h4.nodup_iff.2 (h1.imp fun h => Nat.ne_of_lt h), fun k => (h4.mem_iff).trans (h2 k), h5⟩
theorem LwSt.progN {w W : World} {p : GP} {vn vs vr vm : Value} {N : Nat} (h : LwSt w p vn vs vr vm W) (e : p.n = N) : ProgIs W (.agg #[.int .i64 (N : Int), vn, vs, vr, vm]) p := e ▸ h.prog
theorem LwSt.boxN {w W : World} {p : GP} {vn vs vr vm : Value} {N : Nat} (h : LwSt w p vn vs vr vm W) (e : p.n = N) : Blk W w.heap.size [.int .i64 (N : Int), vn, vs, vr, vm] 27 := e ▸ h.box
def keyG (ks : List Nat) (t : Nat) : Int → Int := fun x => if x ∈ (ks.take t).map (fun k : Nat => (k : Int)) then 1 else 0
theorem keyG_new {ks : List Nat} {t : Nat} (hnd : ks.Nodup) (ht : t < ks.length) : keyG ks t ((ks[t] : Nat) : Int) = 0 := by
  unfold keyG
  refine if_neg fun h => ?_
  obtain ⟨k, hk, e⟩ := List.mem_map.1 h
  obtain rfl : k = ks[t] := by omega
  obtain ⟨i, hi, e2⟩ := List.mem_take_iff_getElem.1 hk
  have := (List.getElem_inj hnd).1 e2
  omega
theorem keyG_step {ks : List Nat} {t : Nat} (ht : t < ks.length) : setI (keyG ks t) ((ks[t] : Nat) : Int) 1 = keyG ks (t + 1) := by
  funext x
  unfold setI keyG
  have h : x ∈ (ks.take (t + 1)).map (fun k : Nat => (k : Int)) ↔ x ∈ (ks.take t).map (fun k : Nat => (k : Int)) ∨ x = ((ks[t] : Nat) : Int) := by
    rw [List.take_succ_eq_append_getElem ht, List.map_append, List.map_singleton, List.mem_append, List.mem_singleton]
  by_cases e : x = ((ks[t] : Nat) : Int)
  · rw [if_pos e, if_pos (h.2 (.inr e))]
  · rw [if_neg e]
    by_cases h2 : x ∈ (ks.take t).map (fun k : Nat => (k : Int))
    · rw [if_pos h2, if_pos (h.2 (.inl h2))]
    · rw [if_neg h2, if_neg (fun h3 => (h.1 h3).elim h2 e)]
theorem keyG_one {ks : List Nat} {x : Nat} : keyG ks ks.length x = 1 ↔ x ∈ ks := by
  unfold keyG
  rw [List.take_length]
  constructor
  · intro h
    split at h
    · rename_i h2
      obtain ⟨k, hk, e⟩ := List.mem_map.1 h2
      obtain rfl : k = x := by omega
      exact hk
    · cases h
  · intro h
    exact if_pos (List.mem_map.2 ⟨x, h, rfl⟩)
def Ls1Rel (ks : List Nat) (W : World) (n : Nat) (i : Value) (wx : World) : Prop :=
  ∃ t : Nat, t ≤ n ∧ i = .int .i64 t ∧ Below W.heap.size W wx ∧ MapIs (Value.int .i64) wx W.heap.size (mapI (keyG ks t))
def Ls2Rel (m : List Int) (n : Nat) (b i : Value) : Prop :=
  ∃ k B : Nat, k ≤ m.length ∧ i = .int .i64 k ∧ b = .int .i64 B ∧ BitsTo m k B ∧ B < 2 ^ n
def Ls3Rel (G : Int → Int) (W : World) (n : Nat) (i : Value) (wx : World) : Prop :=
  ∃ t : Nat, t ≤ n ∧ i = .int .i64 t ∧ Below W.heap.size W wx ∧ MapIs (Value.int .i64) wx W.heap.size (mapI G)
def Ls4Rel (p : GP) (n bits : Nat) (W : World) (b s : Value) (wx : World) : Prop :=
  ∃ (sb : Nat) (bb : Bool), s = .int .i64 sb ∧ b = .bool bb ∧ sb &&& bits = sb ∧ TryB p n bits sb bb ∧ Below W.heap.size W wx
def ls27Φ (_B : Nat) (m : List Int) (bb : Bool) (i : Nat) (_ : List Value) (v : Value) (_ _ : Nat) (w : World) : Prop :=
  match i with
  | 5 => (∃ a n c, v = .slice a n c) ∧ Ints w v m
  | _ => v = .bool bb
theorem ls27Φ_later (B : Nat) (m : List Int) (bb : Bool) : ∀ i args v lo hi w w', ls27Φ B m bb i args v lo hi w → Below w.heap.size w w' → ls27Φ B m bb i args v lo hi w' := by
  intro i args v lo hi w w' h hb
  unfold ls27Φ at *
  split at h <;> first | exact h | exact ⟨h.1, h.2.below hb⟩
set_option maxHeartbeats 4000000 in
set_option maxRecDepth 100000 in
theorem ls27_walk (vp : Value) (p : GP) (w : World) (hP : ProgIs w vp p) :
    Calls Tryz.prog 4 #[vp] w fun e w' => e = .returned (.bool true) ∧ Below w.heap.size w w' := by
  have hP0 := hP
  obtain ⟨vn, vs, vr, vm, rfl, hPS⟩ := hP
  have hpn := hPS.n
  unfold InI at hpn
  obtain ⟨ar, cr, rfl, -, hlr, -, -⟩ := hPS.rules.form
  have HS0 := Lib.hid (LwSt.start hP0)
  have hmm := @run_makeMap Tryz.prog
  clear hP0 hPS
  go_enter Tryz.func4, Tryz.ntmps4
  go_upto_region 1 with fail
  have kx0 := HS0.out.box.cell
  generalize w.alloc (.cells #[.int .i64 p.n, vn, vs, .slice ar p.rules.length cr, vm] 27) = W at *
  cases hsm : small27B p with
  | false =>
    have HSM := Lib.hid hsm
    clear hsm
    go_wp2_with (first
      | (go_at_call 13; (with_reducible refine (small27_any _ p _ HS0.out.prog).mono ?_); rintro e w1 ⟨h1, hb1⟩; rw [HSM.out] at h1; subst h1; have HS1 := Lib.hid (HS0.out.on hb1); have kx1 := HS1.out.box.cell; clear hb1)
      | (go_at_call 14; (with_reducible refine (awake27_any _).mono ?_); rintro e w9 ⟨rfl, hb9⟩; have HS9 := Lib.hid (HS1.out.on hb9); have kx9 := HS9.out.box.cell; clear hb9))
    go_ret
    exact ⟨rfl, HS9.out.below⟩
  | true =>
    have HSM := Lib.hid hsm
    have hsm2 := hsm
    unfold small27B at hsm2
    simp only [Bool.and_eq_true, decide_eq_true_eq] at hsm2
    obtain ⟨⟨⟨-, h6⟩, h7⟩, hv⟩ := hsm2
    clear hsm
    have HV := Lib.hid hv
    have hn0 := (validP hv).n
    obtain ⟨N, hN⟩ : ∃ N : Nat, p.n = N := ⟨p.n.toNat, by omega⟩
    have HN := Lib.hid hN
    have hN12 : N ≤ 12 := by omega
    have hN6 : N ≤ 6 := by omega
    have h1000 : p.rules.length ≤ 1000 := by omega
    clear hv hN
    go_upto_region 6 with (first
      | (go_at_call 13; (with_reducible refine (small27_any _ p _ HS0.out.prog).mono ?_); rintro e w1 ⟨h1, hb1⟩; rw [HSM.out] at h1; subst h1; have HS1 := Lib.hid (HS0.out.on hb1); have kx1 := HS1.out.box.cell; clear hb1)
      | (go_at_call 8; (with_reducible refine (all_stable _ p N _ HS1.out.prog HV.out HN.out hN12 h1000).mono ?_); rintro e w2 ⟨vL, LL, rfl, ⟨vs9, hsl, hin⟩, hao, hb2⟩; obtain ⟨aL, cL, rfl, -, -, hlL, hcL⟩ := hsl; obtain ⟨ks, hnd, hks, hLL⟩ := hao.keys; have hlen : LL.length = ks.length := (congrArg List.length hLL).trans (List.length_map _); have HS2 := Lib.hid (HS1.out.on hb2); have kx2 := HS2.out.box.cell; have HCL := Lib.hid hcL; have HIN := Lib.hid hin; have HLL := Lib.hid hLL; have HND := Lib.hid hnd; have HKS := Lib.hid hks; clear hb2 hcL hin hao hLL hnd hks))
    have HLE := Lib.hid hlen
    clear kx0 kx1 kx2 hlen
    go_wp2
    go_loopw [30] (fun i wx => Ls1Rel ks w2 LL.length i wx) (fun i _ => LL.length - (intOf i).toNat)
    case atStart =>
      refine ⟨0, Nat.zero_le _, rfl, bal (Below.refl _ _) _, ?_⟩
      have e : mapI (keyG ks 0) = fun _ => none := by funext x; simp [mapI, keyG]
      rw [e]; exact MapIs.made w2
    case round =>
      obtain ⟨t, ht, rfl, hbr, hmp⟩ := hrel
      have HMAP := Lib.hid hmp
      have HBr := Lib.hid hbr
      have HSr := Lib.hid (HS2.out.on hbr)
      have hmb : w2.heap.size < wr.heap.size := hmp.lt
      clear hbr hmp
      by_cases hlt : t < LL.length
      · have hltk : t < ks.length := by have := HLE.out; omega
        obtain ⟨bL, oL, rfl, hbL, hc⟩ := HCL.out (by omega)
        have hmI := (HIN.out t hlt).below HBr.out
        have hkc := (bcell HBr.out _ _ hbL).trans (hc t hlt)
        obtain ⟨m, hm⟩ : ∃ m, LL.getD t [] = m := ⟨_, rfl⟩
        obtain ⟨kt, hkt⟩ : ∃ kt : Nat, ks[t] = kt := ⟨_, rfl⟩
        have hmk : m = subL kt N := by
          rw [← hm, HLL.out, List.getD_eq_getElem?_getD, List.getElem?_map, List.getElem?_eq_getElem hltk, hkt]; rfl
        have hktN : kt < 2 ^ N := ((HKS.out kt).1 (hkt ▸ List.getElem_mem hltk)).1
        have hnew := keyG_new HND.out hltk
        have hstep := keyG_step hltk
        rw [hkt] at hnew hstep
        have hlk := mapI_look HMAP.out (kt : Int)
        rw [hnew] at hlk
        have HSTEP := Lib.hid hstep
        have hT := (sh_wrap N (by omega)).2
        rw [hm] at hmI
        obtain ⟨am, cm, e8, -, hlm, -, hcm⟩ := hmI.form
        rw [e8] at hkc
        have HCM := Lib.hid hcm
        have HMK := Lib.hid hmk
        have HKN := Lib.hid hktN
        have hlm6 : m.length ≤ N := by rw [hmk]; exact subL_len _ _
        clear hmI hc hcm e8 hmk hnew hstep hktN hkt hm
        go_upto_region 11 with fail
        go_wp2
        go_loop [8, 36] (fun b i => Ls2Rel m N b i) (fun _ i => m.length - (intOf i).toNat)
        case atStart => exact ⟨0, 0, Nat.zero_le _, rfl, rfl, BitsTo.zero m, Nat.two_pow_pos _⟩
        case round =>
          obtain ⟨k, B, hk, rfl, rfl, hbt, hB⟩ := hrel
          by_cases hlt2 : k < m.length
          · obtain ⟨b3, o3, rfl, hb3, hc3⟩ := HCM.out (by omega)
            have hk1 := hc3 k hlt2
            have hxm := ix_mem hlt2
            obtain ⟨xq, hxk⟩ : ∃ xq, ix m k = xq := ⟨_, rfl⟩
            rw [hxk] at hxm hk1
            rw [HMK.out] at hxm
            obtain ⟨q, hqN, hq, -⟩ := subL_memN.1 hxm
            rw [hq] at hk1
            have HBT := Lib.hid (hbt.next hlt2 (hxk.trans hq))
            obtain ⟨hsh, hsh2⟩ := sh_wrap q (by omega)
            have hQ : B ||| 2 ^ q < 2 ^ N := Nat.or_lt_two_pow hB (Nat.pow_lt_pow_right (by omega) hqN)
            have hor := or_nat (a := B) (b := 2 ^ q) (by omega) (by omega)
            have HQ := Lib.hid hQ
            have hmin : min q 64 = q := Nat.min_eq_left (by omega)
            generalize 2 ^ q = Q at *
            clear hbt hc3 hq hQ hlk hlm
            go_wp2
            first
              | (go_round
                 case rel => (exact ⟨k + 1, B ||| Q, hlt2, by go_num, rfl, HBT.out, HQ.out⟩)
                 case measure => (simp [intOf]; omega))
              | (refine ⟨?_, ?_⟩
                 · (exact ⟨k + 1, B ||| Q, hlt2, by go_num, rfl, HBT.out, HQ.out⟩)
                 · (simp [intOf]; omega))
          · obtain rfl : k = m.length := by omega
            have hBk : B = kt := by
              have h := HMK.out
              subst h
              exact hbt.full HKN.out
            subst hBk
            clear hbt
            go_wp2_with (at_mapUpdate; refine wpList_mput _ _ (B : Int) (.int .i64 1) kvInt 41 3 3 Tryz.underlying41 Tryz.underlying3 rfl _ _ _ rfl rfl rfl rfl HMAP.out ?_; intro w7 hm7 hg7 hs7; have HM7 : Hid (MapIs (Value.int .i64) w7 w2.heap.size (mapI (keyG ks (t + 1)))) := Lib.hid (by rw [← HSTEP.out, mapI_set (by omega)]; exact hm7); have HB7 : Hid (Below w2.heap.size w2 w7) := Lib.hid (HBr.out.trans ⟨hg7.os, hg7.tape, hg7.output, hg7.size, fun i hi => hg7.block i (by omega) (fun e => by have := Option.some.inj e; omega)⟩); clear hm7 hg7 hs7)
            first
              | (go_roundw
                 case rel => (exact ⟨t + 1, hlt, by go_num, HB7.out, HM7.out⟩)
                 case measure => (simp [intOf]; omega))
              | (refine ⟨?_, ?_⟩
                 · (exact ⟨t + 1, hlt, by go_num, HB7.out, HM7.out⟩)
                 · (simp [intOf]; omega))
      · obtain rfl : t = ks.length := by have := HLE.out; omega
        have kxr := (HSr.out.boxN HN.out).cell
        obtain ⟨hsh, hT⟩ := sh_wrap N (by omega)
        obtain ⟨T, hTT⟩ : ∃ T : Nat, 2 ^ N = T := ⟨_, rfl⟩
        rw [hTT] at hsh hT
        have HTT := Lib.hid hTT
        have hmin : min N 64 = N := Nat.min_eq_left (by omega)
        obtain ⟨wo, rfl⟩ : ∃ wo : World, wo = wr := ⟨_, rfl⟩
        clear hTT
        go_upto_region 19 with fail
        rw [hsh]
        clear hsh kxr hmm
        go_loopw [54] (fun i wx => Ls3Rel (keyG ks ks.length) w2 T i wx) (fun i _ => T - (intOf i).toNat)
        case atStart => exact ⟨0, Nat.zero_le _, rfl, HBr.out, HMAP.out⟩
        case round =>
          obtain ⟨t, ht, rfl, hb3, hm3⟩ := hrel
          have HMAP3 := Lib.hid hm3
          have HB3 := Lib.hid hb3
          have HS3 := Lib.hid (HS2.out.on hb3)
          have kx3 := (HS3.out.boxN HN.out).cell
          clear hb3 hm3
          by_cases hlt : t < T
          · have hsl := subL_len t N
            have hset : setQ p.n (subL t N) = true := setQ_of (subL_sorted _ _) (fun x hx => by have := subL_range _ _ x hx; have := HN.out; omega)
            have HSET := Lib.hid hset
            have HSP : Hid ((decide (validE p = 0) && (setQ p.n (subL t N) && suppB p (subL t N))) = suppB p (subL t N)) := Lib.hid (by rw [decide_eq_true HV.out, hset]; rfl)
            have HTL : Hid (t < 2 ^ N) := Lib.hid (by rw [HTT.out]; exact hlt)
            clear hset
            go_upto_region 24 with (first
              | (go_at_call 12; (with_reducible refine (extend_any _ _ p (subL t N) w5 (HS5.out.progN HN.out) (HI4.out.below HB5.out)).mono ?_); rintro e w6 ⟨a6, c6, rfl, hy6, hb6⟩; have HS6 := Lib.hid (HS5.out.on hb6); have HB6 := Lib.hid (bon HB5.out hb6); have HY6 := Lib.hid hy6; have kx6 := (HS6.out.boxN HN.out).cell; clear hb6 hy6)
              | (go_at_call 10; (with_reducible refine (supported_any _ _ p (subL t N) w4 (HS4.out.progN HN.out) HI4.out).mono ?_); rintro e w5 ⟨h5, hb5⟩; rw [HSP.out] at h5; subst h5; have HS5 := Lib.hid (HS4.out.on hb5); have HB5 := Lib.hid hb5; have kx5 := (HS5.out.boxN HN.out).cell; clear hb5)
              | (go_at_call 15; (with_reducible refine (subset_any N t (by omega) wr).mono ?_); rintro e w4 ⟨vset, rfl, hq, hb4⟩; obtain ⟨a4, c4, rfl⟩ := hq.slen; have HS4 := Lib.hid (HS3.out.on hb4); have HB4 := Lib.hid hb4; have HI4 := Lib.hid (hq.ints (by omega)); have kx4 := (HS4.out.boxN HN.out).cell; clear hb4 hq))
            have HB36 : Hid (Below w2.heap.size w2 w6) := Lib.hid (bon (bon HB3.out HB4.out) HB6.out)
            have HM6 := Lib.hid ((HMAP3.out.below HB4.out).below HB6.out)
            obtain ⟨sb0, hsb0⟩ : ∃ sb0, suppB p (subL t N) = sb0 := ⟨_, rfl⟩
            have HTR := Lib.hid (hsb0 ▸ TryB.start HV.out : TryB p N t t sb0)
            rw [hsb0]
            clear hsb0 kx3 kx4 kx5 kx6
            obtain ⟨wq, rfl⟩ : ∃ wq : World, wq = wr := ⟨_, rfl⟩
            go_wp2
            go_loopw [13, 15] (fun b s wx => Ls4Rel p N t w6 b s wx) (fun _ s _ => (intOf s).toNat)
            case atStart => exact ⟨t, sb0, rfl, rfl, Nat.and_self _, HTR.out, Below.refl _ _⟩
            case round =>
              obtain ⟨sb, bb, rfl, rfl, hsub, htry, hb7⟩ := hrel
              have HTY := Lib.hid htry
              have HB7 := Lib.hid hb7
              have HS7 := Lib.hid (HS6.out.on hb7)
              have hsle : sb ≤ t := by rw [← hsub]; exact Nat.and_le_right
              have HSUB := Lib.hid hsub
              clear htry hb7 hsub
              by_cases hgo : 0 < sb ∧ bb = true
              · obtain ⟨hs0, rfl⟩ := hgo
                have HNX := Lib.hid (HTY.out.step HV.out HSET.out HTL.out hs0 HSUB.out)
                obtain ⟨ub, hub⟩ : ∃ ub, unfB p (extA p (subL t N)) (subL sb N) = ub := ⟨_, rfl⟩
                rw [hub] at HNX
                have HUB := Lib.hid hub
                have hand := and_nat (a := sb - 1) (b := t) (by omega) (by omega)
                have e1 : ((sb - 1 : Nat) : Int) = (sb : Int) - 1 := by omega
                rw [e1] at hand
                have hle2 : (sb - 1) &&& t < sb := Nat.lt_of_le_of_lt Nat.and_le_left (by omega)
                have HSK := Lib.hid (sub_keep (s := sb) (bits := t))
                generalize (sb - 1) &&& t = sn at *
                clear hub e1
                go_upto_region 27 with fail
                have kp7 : ∀ e : Ext wr, ∀ o, e.world.cell? ⟨w.heap.size, o, none⟩ = _ := fun e o => (bcell e.below _ o HS7.out.box.lt).trans ((HS7.out.boxN HN.out).cell o)
                refine wp_region_perm' (ls27Φ 0 (subL sb N) ub) (fun i => i == 5 || i == 6) (by kernel_rfl) (by kernel_rfl) (by kernel_rfl) (ls27Φ_later _ _ _) ?_
                iterate 5 (refine walkP_calm rfl rfl rfl (fun K hK => ?_); go_big_quiet_op; refine hK _ ?_; clear hK K)
                refine walkP_mem rfl rfl (fun wa hba hFa => ?_) (fun v lo hi l g h => ?_)
                · go_simp
                  exact (subset_any N sb (by omega) wa).mono (fun e w2 ⟨v, h1, h2, h3⟩ => ⟨_, h1, h3, (let ⟨_, _, h⟩ := h2.slen; ⟨_, _, _, h⟩), h2.ints (by have := subL_len sb N; omega)⟩)
                obtain ⟨_, ⟨_, _, _, rfl⟩, -⟩ := h
                simp only [Act.put, List.setIfInBounds_toArray, List.set_cons_succ, List.set_cons_zero]
                refine walkP_mem rfl rfl (fun wa hba hFa => ?_) (fun v lo hi l g h => ?_)
                · have f5 := hFa _ (.head _) (by kernel_rfl)
                  obtain ⟨-, f5⟩ := f5
                  go_simp
                  exact (unfounded_any _ _ _ p _ _ _ ((HS7.out.progN HN.out).below hba) ((HY6.out.below HB7.out).below hba) f5).mono (fun e w2 ⟨h1, h2⟩ => ⟨_, h1.trans (by rw [HUB.out]), h2, rfl⟩)
                obtain ⟨_, rfl⟩ := h
                simp only [Act.put, List.setIfInBounds_toArray, List.set_cons_succ, List.set_cons_zero]
                iterate 2 (refine walkP_calm rfl rfl rfl (fun K hK => ?_); go_big_quiet_op; refine hK _ ?_; clear hK K)
                intro wx hbx hF hI hP
                have HBX := Lib.hid hbx
                clear hF hI hP hbx
                go_wp2_with fail
                first
                  | (go_roundw
                     case rel => (exact ⟨sn, !ub, rfl, rfl, HSK.out, HNX.out, bon HB7.out HBX.out⟩)
                     case measure => (simp [intOf]; omega))
                  | (refine ⟨?_, ?_⟩
                     · (exact ⟨sn, !ub, rfl, rfl, HSK.out, HNX.out, bon HB7.out HBX.out⟩)
                     · (simp [intOf]; omega))
              · have hdone := HTY.out.done HV.out HSET.out HTL.out (fun e => Nat.eq_zero_of_not_pos fun h => hgo ⟨h, e⟩)
                have hkk : (keyG ks ks.length t = 1) ↔ bb = true := by
                  rw [keyG_one, HKS.out, hdone]
                  exact ⟨fun h => h.2, fun h => ⟨HTL.out, h⟩⟩
                have hlk := mapI_look ((HM6.out.below HB7.out)) (t : Int)
                obtain ⟨g, hg⟩ : ∃ g, keyG ks ks.length t = g := ⟨_, rfl⟩
                rw [hg] at hlk hkk
                have hge : (g == 1) = bb := by
                  cases bb with
                  | true => simp [hkk.2 rfl]
                  | false =>
                    have : g ≠ 1 := fun h => by have := hkk.1 h; cases this
                    simp [this]
                clear hdone hkk hg
                cases bb with
                | false =>
                  clear hgo
                  by_cases hs0 : 0 < sb
                  · go_wp2
                    first
                      | (go_roundw
                         case rel => (exact ⟨t + 1, hlt, by go_num, bon HB36.out HB7.out, HM6.out.below HB7.out⟩)
                         case measure => (simp [intOf]; omega))
                      | (refine ⟨?_, ?_⟩
                         · (exact ⟨t + 1, hlt, by go_num, bon HB36.out HB7.out, HM6.out.below HB7.out⟩)
                         · (simp [intOf]; omega))
                  · go_wp2
                    first
                      | (go_roundw
                         case rel => (exact ⟨t + 1, hlt, by go_num, bon HB36.out HB7.out, HM6.out.below HB7.out⟩)
                         case measure => (simp [intOf]; omega))
                      | (refine ⟨?_, ?_⟩
                         · (exact ⟨t + 1, hlt, by go_num, bon HB36.out HB7.out, HM6.out.below HB7.out⟩)
                         · (simp [intOf]; omega))
                | true =>
                  obtain rfl : sb = 0 := Nat.eq_zero_of_not_pos fun h => hgo ⟨h, rfl⟩
                  clear hgo
                  go_wp2
                  first
                    | (go_roundw
                       case rel => (exact ⟨t + 1, hlt, by go_num, bon HB36.out HB7.out, HM6.out.below HB7.out⟩)
                       case measure => (simp [intOf]; omega))
                    | (refine ⟨?_, ?_⟩
                       · (exact ⟨t + 1, hlt, by go_num, bon HB36.out HB7.out, HM6.out.below HB7.out⟩)
                       · (simp [intOf]; omega))
          · clear kx3
            go_wp2_with (go_at_call 14; (with_reducible refine (awake27_any _).mono ?_); rintro e w9 ⟨rfl, hb9⟩; have HS9 := Lib.hid (HS3.out.on hb9); have kx9 := HS9.out.box.cell; clear hb9)
            go_ret
            exact ⟨rfl, HS9.out.below⟩
theorem stable27_law {W : World} {vp : Value} {p : GP} (hP : ProgIs W vp p) :
    Calls Tryz.prog 4 #[vp] W fun e w' => e = .returned (.bool true) ∧ Below W.heap.size W w' := ls27_walk vp p W hP
end Go.Proofs.YtjodocheiejkeaaGreatDoor
