/- My texts Sm32, ApP, Su26, Rdc1, Rdc2, Rdc3, Rdc5, Rc1, Rf26r, RowK, St3, Rdc6, merged. -/
import Derived.Test.YteblddnoegbalaaGreatM20
import Derived.Test.YteblddnoegbalaaGreatM13
import Derived.Test.YteblddnoegbalaaGreatM04
import Derived.Test.YteblddnoegbalaaGreatM03
import Derived.Test.YteblddnoegbalaaGreatM00
import Derived.Test.YteblddnoegbalaaGreatProg
import Derived.WalkKit
import Derived.Lib.Hide
import Derived.Deep.QuietTactic
import Derived.BigQuiet
import Derived.WalkSpells
import Derived.Lib.SliceRun
import Derived.MapKept
import Derived.Maps.OwnSet
import Derived.Maps.OwnOps
import Derived.Test.YteblddnoegbalaaGreatM02
import Derived.Test.YteblddnoegbalaaGreatM01
import Derived.Deep.AppendLies
import Derived.Lib.Bytealg
import Derived.Deep.AppendSrc
import Derived.Test.YteblddnoegbalaaGreatM16
import Derived.Test.YteblddnoegbalaaGreatM11
import Derived.Test.YteblddnoegbalaaGreatM10
import Derived.Test.YteblddnoegbalaaGreatM09
import Derived.Test.YteblddnoegbalaaGreatM08
import Derived.Test.YteblddnoegbalaaGreatM05
import Derived.Deep.DeepCutAuto
import Derived.RangeFuncNested
import Derived.RangeFuncBound
import Derived.RangeFuncCalls
import Derived.RangeFuncLeaves
import Derived.OwnWalkIn
import Derived.TacticsInMore
import Derived.LoopNIn
import Derived.LoopIn
import Derived.Stop.RegionWithIn
import Derived.Shelf.Abstract
import Derived.Maps.RangeWalk
import Derived.Test.YteblddnoegbalaaGreatM07
import Derived.Test.YteblddnoegbalaaGreatM06
import Derived.Lib.SlicesCompact
import Derived.Shelf.Sort.Plain
import Derived.Shelf.Slices.CompactI
import Derived.Shelf.Slices.In.SortNone
import Derived.Shelf.Strconv.Itoa3
import Derived.Shelf.Strings.BuilderK
import Derived.Shelf.Slices.SearchI
import Derived.Shelf.Slices.Empties
import Derived.Sort.OwnSortedInts
import Derived.Sort.QuietThIn
import Derived.RangeFuncBox
import Derived.Maps.OwnIn
import Derived.Lib.RowBridge
import Derived.Deep.OwnRows
import Derived.Deep.DeepMust
import Derived.Test.YteblddnoegbalaaGreatM26
import Derived.Shelf.SlSortCmp.Kit1
import Derived.RangeFuncOwn
import Derived.Test.YteblddnoegbalaaGreatM19
import Derived.Test.YteblddnoegbalaaGreatM14
import Derived.Test.YteblddnoegbalaaGreatM12
import Derived.Laws.EntriesVeiled
import Derived.Deep.RegionWith
import Derived.Test.YteblddnoegbalaaGreatM15
import Derived.Deep.LoopGhost
import Derived.Deep.DrawnRows
import Derived.Test.YteblddnoegbalaaGreatM18
import Derived.Test.YteblddnoegbalaaGreatM17
import Derived.ProofKit
import Derived.OpenShut
import Derived.ChangeArms
import Derived.SizedLaws
import Derived.Test.YteblddnoegbalaaGreatM23
import Derived.Test.YteblddnoegbalaaGreatM22
import Derived.Test.YteblddnoegbalaaGreatM21
import Derived.Lib.AppendZeros
import Derived.Laws.Cover1
import Derived.Deep.RegionHeld3
import Derived.Laws.ResultCell
import Derived.Laws.Rows
import Derived.Deep.RegionLaw
import Derived.Sort.CutIn

namespace Go.Proofs.YteblddnoegbalaaGreat
open Go.RowKit
theorem lists_form {w : World} {v : Value} {L : List (List Int)} (h : ListsIs w v L) : ∃ a cap, v = .slice a L.length cap ∧ L.length ≤ cap ∧ L.length ≤ 1000000000000000 ∧
    (0 < L.length → ∃ b off, a = some ⟨b, off, none⟩ ∧ b < w.heap.size ∧ ∀ i, i < L.length → ∃ u, w.cell? ⟨b, off + i, none⟩ = some u ∧ Ints w u (L.getD i [])) := by
  obtain ⟨vs, ⟨a, cap, rfl, h1, hm, h2, h3⟩, h4⟩ := h
  refine ⟨a, cap, rfl, h1, by omega, fun hp => ?_⟩
  obtain ⟨b, off, e, hb, hc⟩ := h3 hp
  exact ⟨b, off, e, hb, fun i hi => ⟨vs i, hc i hi, h4 i hi⟩⟩
theorem tmod_lim (x m : Int) (hm : 0 < m) : -m < x.tmod m ∧ x.tmod m < m := by
  have h1 := Int.tmod_lt_of_pos x hm
  have h2 := Int.tmod_lt_of_pos (-x) hm
  rw [Int.neg_tmod] at h2
  omega
theorem ix_lim {K : List Int} (h : ∀ y ∈ K, -5 ≤ y ∧ y ≤ 5) (j : Nat) : -5 ≤ ix K j ∧ ix K j ≤ 5 := by
  by_cases hj : j < K.length
  · exact h _ (ix_mem hj)
  · have : ix K j = 0 := by unfold ix; rw [List.getD_eq_getElem?_getD, List.getElem?_eq_none (by omega)]; rfl
    omega
def SmO (w : World) (n : Nat) (o i : Value) (wx : World) : Prop :=
  ∃ (k : Nat) (L : List CQ), k ≤ n ∧ i = .int .i64 (k : Int) ∧ RowP w o L wx ∧ Below w.heap.size w wx ∧ L.length ≤ k ∧ ∀ q ∈ L, SmallC q.1
def SmI (W : World) (n : Nat) (vx vk i : Value) (wx : World) : Prop :=
  ∃ (j : Nat) (X K : List Int), j ≤ n ∧ i = .int .i64 (j : Int) ∧ QRow W.heap.size wx vx X ∧ QRow W.heap.size wx vk K ∧ Far vx vk ∧ Below W.heap.size W wx ∧ X.length ≤ j ∧ K.length ≤ j ∧ (∀ x ∈ X, x ≠ 0 ∧ x.natAbs ≤ 7) ∧ ∀ y ∈ K, -5 ≤ y ∧ y ≤ 5
theorem QRow.far2 {base : Nat} {w : World} {u v : Value} {l : List Int} (hf : Far u v) (hv : QRow base w v l) {w' : World} (hg : w.grownBy w' u.ownBlock) : QRow base w' v l :=
  hv.kept fun i _ hi e => hg.block i hi fun e2 => hf i e2.symm e
set_option maxHeartbeats 8000000 in
set_option maxRecDepth 100000 in
theorem small32_any (vl vk0 vb : Value) (A C : List (List Int)) (B : List Int) (w : World) (hA : ListsIs w vl A) (hC : ListsIs w vk0 C) (hB : Ints w vb B) :
    Calls Tryz.prog 21 #[vl, vk0, vb] w fun e w' => ∃ a L cap, e = .returned (.slice a L.length cap) ∧ PBsIs w' (.slice a L.length cap) L ∧ (∀ c ∈ L, SmallC c) ∧ L.length ≤ 24 ∧ Below w.heap.size w w' := by
  obtain ⟨aA, cA, rfl, hcA, hlA, hA2⟩ := lists_form hA
  obtain ⟨aC, cC, rfl, hcC, hlC, hC2⟩ := lists_form hC
  obtain ⟨aB, cB, rfl, hcB, hlB, -, hB2⟩ := hB.form
  have HA := Lib.hid hA2
  have HC := Lib.hid hC2
  have HBD := Lib.hid hB2
  have HBF := Lib.hid hB.2
  obtain ⟨n, hn⟩ : ∃ n : Nat, min (A.length : Int) 24 = n := ⟨min A.length 24, by omega⟩
  have hnA : n ≤ A.length ∧ n ≤ 24 := by omega
  clear hA hC hB hA2 hC2 hB2
  go_enter Tryz.func21, Tryz.ntmps21
  go_upto_region 3 with fail
  clear hn
  go_loopw [7, 24] (fun o i wx => SmO w n o i wx) (fun _ i _ => n - (intOf i).toNat)
  case atStart => exact ⟨0, [], Nat.zero_le _, rfl, RowP.nil w w, Below.refl _ _, Nat.le_refl _, fun q hq => absurd hq List.not_mem_nil⟩
  case round =>
    obtain ⟨k, L, hk, rfl, hrow, hbw, hLk, hLok⟩ := hrel
    obtain ⟨ao, co, rfl⟩ := hrow.slen
    have HROW := Lib.hid hrow
    have HLOK := Lib.hid hLok
    have HBW0 := Lib.hid hbw
    have HLK := Lib.hid hLk
    clear hrow hLok hLk
    by_cases hlt : k < n
    · obtain ⟨b, off, rfl, hbl, hc⟩ := HA.out (by omega)
      obtain ⟨u, hu, hul⟩ := hc k (by omega)
      have kk := (bcell hbw b _ hbl).trans hu
      obtain ⟨l, hl⟩ : ∃ l, A.getD k [] = l := ⟨_, rfl⟩
      rw [hl] at hul
      obtain ⟨a1, c1, rfl, hlc1, hl1, -, hcl⟩ := hul.form
      have HCL : Hid (0 < l.length → ∃ b off, a1 = some ⟨b, off, none⟩ ∧ b < w.heap.size ∧ ∀ i, i < l.length → w.cell? ⟨b, off + i, none⟩ = some (.int .i64 (ix l i))) := Lib.hid hcl
      have HLF := Lib.hid hul.2
      obtain ⟨m, hm⟩ : ∃ m : Nat, min (l.length : Int) 8 = m := ⟨min l.length 8, by omega⟩
      have hml : m ≤ l.length ∧ m ≤ 8 := by omega
      have hmc : m ≤ c1 := by omega
      clear hc hu hul hl hcl hbw
      go_wp2
      clear kk hm
      generalize hwq : wr = wq at *
      clear hwq
      go_loopw [10, 11, 35] (fun vx vk i wx => SmI wq m vx vk i wx) (fun _ _ i _ => m - (intOf i).toNat)
      case atStart => exact ⟨0, [], [], Nat.zero_le _, rfl, QRow.nil _ _, QRow.nil _ _, fun g e => (by cases e), Below.refl _ _, Nat.le_refl _, Nat.le_refl _, fun x hx => absurd hx List.not_mem_nil, fun x hx => absurd hx List.not_mem_nil⟩
      case round =>
        obtain ⟨j, X, K, hj, rfl, hx, hkk, hf, hbw, hxl, hkl, hxo, hko⟩ := hrel
        obtain ⟨axx, cxx, rfl⟩ := hx.slen
        obtain ⟨akk, ckk, rfl⟩ := hkk.slen
        have HX := Lib.hid hx
        have HK := Lib.hid hkk
        have HFAR := Lib.hid hf
        have HBW := Lib.hid hbw
        have HXL := Lib.hid hxl
        have HKL := Lib.hid hkl
        have HXO := Lib.hid hxo
        have HKO := Lib.hid hko
        have hx9 : X.length ≤ 8 := by omega
        have hk9 : K.length ≤ 8 := by omega
        have hbb := bon HBW0.out hbw
        clear hx hkk hf hbw hxl hkl hxo hko
        by_cases hltj : j < m
        · obtain ⟨b1, o1, rfl, hb1, hc1⟩ := HCL.out (by omega)
          obtain ⟨v, hv⟩ : ∃ v, ix l j = v := ⟨_, rfl⟩
          have kv := (bcell hbb b1 _ hb1).trans (hc1 j (by omega))
          have hvI := HLF.out j
          rw [hv] at kv hvI
          clear hv hc1
          obtain ⟨x, hxx⟩ : ∃ x, v.tmod 8 = x := ⟨_, rfl⟩
          have hxr := tmod_lim v 8 (by decide)
          rw [hxx] at hxr
          by_cases h0 : x = 0
          · have h0b : (x == 0) = true := by simp [h0]
            clear h0
            go_wp2
            first
              | (go_roundw
                 case rel => (exact ⟨j + 1, X, K, hltj, by go_num, HX.out, HK.out, HFAR.out, HBW.out, by (have := HXL.out; omega), by (have := HKL.out; omega), HXO.out, HKO.out⟩)
                 case measure => (simp [intOf]; omega))
              | (refine ⟨?_, ?_⟩
                 · (exact ⟨j + 1, X, K, hltj, by go_num, HX.out, HK.out, HFAR.out, HBW.out, by (have := HXL.out; omega), by (have := HKL.out; omega), HXO.out, HKO.out⟩)
                 · (simp [intOf]; omega))
          · have h0b : (x == 0) = false := by simp [h0]
            have HXI : Hid (InI x) := Lib.hid (by unfold InI; omega)
            have HX7 : Hid (x ≠ 0 ∧ x.natAbs ≤ 7) := Lib.hid ⟨h0, by omega⟩
            clear h0
            have HI1 : Hid (InI 1) := Lib.hid (by unfold InI; omega)
            by_cases hkC : k < C.length
            · obtain ⟨b2, o2, rfl, hb2, hc2⟩ := HC.out (by omega)
              obtain ⟨u2, hu2, hul2⟩ := hc2 k hkC
              have kc2 := (bcell hbb b2 _ hb2).trans hu2
              obtain ⟨lC, hlC⟩ : ∃ lC, C.getD k [] = lC := ⟨_, rfl⟩
              rw [hlC] at hul2
              obtain ⟨a2, c2, rfl, -, hl2, -, hcl2⟩ := hul2.form
              have hfC := hul2.2 j
              clear hc2 hu2 hul2 hlC
              by_cases hjC : j < lC.length
              · obtain ⟨b3, o3, rfl, hb3, hc3⟩ := hcl2 (by omega)
                have kc3 := (bcell hbb b3 _ hb3).trans (hc3 j hjC)
                obtain ⟨c0, hc0⟩ : ∃ c0, ix lC j = c0 := ⟨_, rfl⟩
                rw [hc0] at kc3 hfC
                obtain ⟨cc, hcc⟩ : ∃ cc, c0.tmod 6 = cc := ⟨_, rfl⟩
                have hcr := tmod_lim c0 6 (by decide)
                rw [hcc] at hcr
                have HCI : Hid (InI cc) := Lib.hid (by unfold InI; omega)
                have HC5 : Hid (-5 ≤ cc ∧ cc ≤ 5) := Lib.hid (by omega)
                clear hcl2 hc3 hc0
                go_wp2_with (first
                  | (at_builtin; (refine wpList_appendQ rfl _ _ 23 Tryz.underlying23 rfl wq.heap.size _ K (cc) rfl (HK3.out.below (bal (Below.refl _ _) _)) w3.heap.size 1 rfl (Blk.new w3 [.int .i64 (cc)] _) HCI.out (by omega) (by have := HB3.out.size; simp; omega) ?_); intro v5 w5 hq5 hg5 ho5; have HX5 := Lib.hid ((HX3.out.below (bal (Below.refl w3.heap.size w3) (.cells #[.int .i64 (cc)] 3))).far2 (fun g e1 e2 => HF3.out g e2 e1) hg5); have HB5 : Hid (Below wq.heap.size wq w5) := Lib.hid ((bal HB3.out _).trans (below_row hg5 (by have := HB3.out.size; simp; omega) fun g e => (HK3.out.base e).1)); have HF5 : Hid (Far v3 v5) := Lib.hid (fun g e1 e2 => by rcases ho5 with ho5 | ho5; (rw [ho5] at e2; exact HF3.out g e1 e2); (rw [ho5] at e2; have := (HX3.out.base e1).2; simp at e2; omega)); have HK5 := Lib.hid hq5; clear hq5 hg5 ho5)
                  | (at_builtin; (refine wpList_appendQ rfl _ _ 23 Tryz.underlying23 rfl wq.heap.size _ X x rfl (HX.out.below (bal (Below.refl _ _) _)) (wr).heap.size 1 rfl (Blk.new (wr) [.int .i64 x] _) HXI.out (by omega) (by have := HBW.out.size; simp; omega) ?_); intro v3 w3 hq3 hg3 ho3; have HK3 := Lib.hid (QRow.far2 HFAR.out (HK.out.below (bal (Below.refl (wr).heap.size (wr)) (.cells #[.int .i64 x] 3))) hg3); have HB3 : Hid (Below wq.heap.size wq w3) := Lib.hid ((bal HBW.out _).trans (below_row hg3 (by have := HBW.out.size; simp; omega) fun g e => (HX.out.base e).1)); have HF3 : Hid (Far v3 (.slice akk K.length ckk)) := Lib.hid (fun g e1 e2 => by rcases ho3 with ho3 | ho3; (rw [ho3] at e1; exact HFAR.out g e1 e2); (rw [ho3] at e1; have := (HK.out.base e2).2; simp at e1; omega)); have HX3 := Lib.hid hq3; clear hq3 hg3 ho3))
                first
                  | (go_roundw
                     case rel => (exact ⟨j + 1, X ++ [x], K ++ [cc], hltj, by go_num, HX5.out, HK5.out, HF5.out, HB5.out, by (rw [List.length_append]; have := HXL.out; simp; omega), by (rw [List.length_append]; have := HKL.out; simp; omega), fun y hy => by (rcases List.mem_append.1 hy with hy | hy; (exact HXO.out y hy); (rw [List.mem_singleton.1 hy]; exact HX7.out)), fun y hy => by (rcases List.mem_append.1 hy with hy | hy; (exact HKO.out y hy); (rw [List.mem_singleton.1 hy]; exact HC5.out))⟩)
                     case measure => (simp [intOf]; omega))
                  | (refine ⟨?_, ?_⟩
                     · (exact ⟨j + 1, X ++ [x], K ++ [cc], hltj, by go_num, HX5.out, HK5.out, HF5.out, HB5.out, by (rw [List.length_append]; have := HXL.out; simp; omega), by (rw [List.length_append]; have := HKL.out; simp; omega), fun y hy => by (rcases List.mem_append.1 hy with hy | hy; (exact HXO.out y hy); (rw [List.mem_singleton.1 hy]; exact HX7.out)), fun y hy => by (rcases List.mem_append.1 hy with hy | hy; (exact HKO.out y hy); (rw [List.mem_singleton.1 hy]; exact HC5.out))⟩)
                     · (simp [intOf]; omega))
              · clear hcl2
                go_wp2_with (first
                  | (at_builtin; (refine wpList_appendQ rfl _ _ 23 Tryz.underlying23 rfl wq.heap.size _ K (1) rfl (HK3.out.below (bal (Below.refl _ _) _)) w3.heap.size 1 rfl (Blk.new w3 [.int .i64 (1)] _) HI1.out (by omega) (by have := HB3.out.size; simp; omega) ?_); intro v5 w5 hq5 hg5 ho5; have HX5 := Lib.hid ((HX3.out.below (bal (Below.refl w3.heap.size w3) (.cells #[.int .i64 (1)] 3))).far2 (fun g e1 e2 => HF3.out g e2 e1) hg5); have HB5 : Hid (Below wq.heap.size wq w5) := Lib.hid ((bal HB3.out _).trans (below_row hg5 (by have := HB3.out.size; simp; omega) fun g e => (HK3.out.base e).1)); have HF5 : Hid (Far v3 v5) := Lib.hid (fun g e1 e2 => by rcases ho5 with ho5 | ho5; (rw [ho5] at e2; exact HF3.out g e1 e2); (rw [ho5] at e2; have := (HX3.out.base e1).2; simp at e2; omega)); have HK5 := Lib.hid hq5; clear hq5 hg5 ho5)
                  | (at_builtin; (refine wpList_appendQ rfl _ _ 23 Tryz.underlying23 rfl wq.heap.size _ X x rfl (HX.out.below (bal (Below.refl _ _) _)) (wr).heap.size 1 rfl (Blk.new (wr) [.int .i64 x] _) HXI.out (by omega) (by have := HBW.out.size; simp; omega) ?_); intro v3 w3 hq3 hg3 ho3; have HK3 := Lib.hid (QRow.far2 HFAR.out (HK.out.below (bal (Below.refl (wr).heap.size (wr)) (.cells #[.int .i64 x] 3))) hg3); have HB3 : Hid (Below wq.heap.size wq w3) := Lib.hid ((bal HBW.out _).trans (below_row hg3 (by have := HBW.out.size; simp; omega) fun g e => (HX.out.base e).1)); have HF3 : Hid (Far v3 (.slice akk K.length ckk)) := Lib.hid (fun g e1 e2 => by rcases ho3 with ho3 | ho3; (rw [ho3] at e1; exact HFAR.out g e1 e2); (rw [ho3] at e1; have := (HK.out.base e2).2; simp at e1; omega)); have HX3 := Lib.hid hq3; clear hq3 hg3 ho3))
                first
                  | (go_roundw
                     case rel => (exact ⟨j + 1, X ++ [x], K ++ [1], hltj, by go_num, HX5.out, HK5.out, HF5.out, HB5.out, by (rw [List.length_append]; have := HXL.out; simp; omega), by (rw [List.length_append]; have := HKL.out; simp; omega), fun y hy => by (rcases List.mem_append.1 hy with hy | hy; (exact HXO.out y hy); (rw [List.mem_singleton.1 hy]; exact HX7.out)), fun y hy => by (rcases List.mem_append.1 hy with hy | hy; (exact HKO.out y hy); (rw [List.mem_singleton.1 hy]; exact ⟨by decide, by decide⟩))⟩)
                     case measure => (simp [intOf]; omega))
                  | (refine ⟨?_, ?_⟩
                     · (exact ⟨j + 1, X ++ [x], K ++ [1], hltj, by go_num, HX5.out, HK5.out, HF5.out, HB5.out, by (rw [List.length_append]; have := HXL.out; simp; omega), by (rw [List.length_append]; have := HKL.out; simp; omega), fun y hy => by (rcases List.mem_append.1 hy with hy | hy; (exact HXO.out y hy); (rw [List.mem_singleton.1 hy]; exact HX7.out)), fun y hy => by (rcases List.mem_append.1 hy with hy | hy; (exact HKO.out y hy); (rw [List.mem_singleton.1 hy]; exact ⟨by decide, by decide⟩))⟩)
                     · (simp [intOf]; omega))
            · go_wp2_with (first
                | (at_builtin; (refine wpList_appendQ rfl _ _ 23 Tryz.underlying23 rfl wq.heap.size _ K (1) rfl (HK3.out.below (bal (Below.refl _ _) _)) w3.heap.size 1 rfl (Blk.new w3 [.int .i64 (1)] _) HI1.out (by omega) (by have := HB3.out.size; simp; omega) ?_); intro v5 w5 hq5 hg5 ho5; have HX5 := Lib.hid ((HX3.out.below (bal (Below.refl w3.heap.size w3) (.cells #[.int .i64 (1)] 3))).far2 (fun g e1 e2 => HF3.out g e2 e1) hg5); have HB5 : Hid (Below wq.heap.size wq w5) := Lib.hid ((bal HB3.out _).trans (below_row hg5 (by have := HB3.out.size; simp; omega) fun g e => (HK3.out.base e).1)); have HF5 : Hid (Far v3 v5) := Lib.hid (fun g e1 e2 => by rcases ho5 with ho5 | ho5; (rw [ho5] at e2; exact HF3.out g e1 e2); (rw [ho5] at e2; have := (HX3.out.base e1).2; simp at e2; omega)); have HK5 := Lib.hid hq5; clear hq5 hg5 ho5)
                | (at_builtin; (refine wpList_appendQ rfl _ _ 23 Tryz.underlying23 rfl wq.heap.size _ X x rfl (HX.out.below (bal (Below.refl _ _) _)) (wr).heap.size 1 rfl (Blk.new (wr) [.int .i64 x] _) HXI.out (by omega) (by have := HBW.out.size; simp; omega) ?_); intro v3 w3 hq3 hg3 ho3; have HK3 := Lib.hid (QRow.far2 HFAR.out (HK.out.below (bal (Below.refl (wr).heap.size (wr)) (.cells #[.int .i64 x] 3))) hg3); have HB3 : Hid (Below wq.heap.size wq w3) := Lib.hid ((bal HBW.out _).trans (below_row hg3 (by have := HBW.out.size; simp; omega) fun g e => (HX.out.base e).1)); have HF3 : Hid (Far v3 (.slice akk K.length ckk)) := Lib.hid (fun g e1 e2 => by rcases ho3 with ho3 | ho3; (rw [ho3] at e1; exact HFAR.out g e1 e2); (rw [ho3] at e1; have := (HK.out.base e2).2; simp at e1; omega)); have HX3 := Lib.hid hq3; clear hq3 hg3 ho3))
              first
                | (go_roundw
                   case rel => (exact ⟨j + 1, X ++ [x], K ++ [1], hltj, by go_num, HX5.out, HK5.out, HF5.out, HB5.out, by (rw [List.length_append]; have := HXL.out; simp; omega), by (rw [List.length_append]; have := HKL.out; simp; omega), fun y hy => by (rcases List.mem_append.1 hy with hy | hy; (exact HXO.out y hy); (rw [List.mem_singleton.1 hy]; exact HX7.out)), fun y hy => by (rcases List.mem_append.1 hy with hy | hy; (exact HKO.out y hy); (rw [List.mem_singleton.1 hy]; exact ⟨by decide, by decide⟩))⟩)
                   case measure => (simp [intOf]; omega))
                | (refine ⟨?_, ?_⟩
                   · (exact ⟨j + 1, X ++ [x], K ++ [1], hltj, by go_num, HX5.out, HK5.out, HF5.out, HB5.out, by (rw [List.length_append]; have := HXL.out; simp; omega), by (rw [List.length_append]; have := HKL.out; simp; omega), fun y hy => by (rcases List.mem_append.1 hy with hy | hy; (exact HXO.out y hy); (rw [List.mem_singleton.1 hy]; exact HX7.out)), fun y hy => by (rcases List.mem_append.1 hy with hy | hy; (exact HKO.out y hy); (rw [List.mem_singleton.1 hy]; exact ⟨by decide, by decide⟩))⟩)
                   · (simp [intOf]; omega))
        · obtain rfl : j = m := by omega
          have HBB := Lib.hid hbb
          have HIX := Lib.hid (HX.out.ints (by omega))
          have HIK := Lib.hid (HK.out.ints (by omega))
          have HRW := Lib.hid (HROW.out.below HBW.out)
          clear hbb
          by_cases hkB : k < B.length
          · obtain ⟨b2, o2, rfl, hb2, hc2⟩ := HBD.out (by omega)
            have kc2 := (bcell HBB.out b2 _ hb2).trans (hc2 k hkB)
            obtain ⟨c0, hc0⟩ : ∃ c0, ix B k = c0 := ⟨_, rfl⟩
            have hfB := HBF.out k
            rw [hc0] at kc2 hfB
            obtain ⟨bb, hbb⟩ : ∃ bb, c0.tmod 12 = bb := ⟨_, rfl⟩
            have hbr := tmod_lim c0 12 (by decide)
            rw [hbb] at hbr
            have hbi : InI bb := by unfold InI; omega
            have HBI := Lib.hid hbi
            have HBL : Hid (-11 ≤ bb ∧ bb ≤ 11) := Lib.hid (by omega)
            clear hc2 hc0 hbi
            obtain ⟨⟨c, E⟩, hN⟩ : ∃ N, normP X K (bb) = N := ⟨_, rfl⟩
            have HN := Lib.hid hN
            have HOKE : Hid (E = 0 → SmallC c) := Lib.hid (fun hE => by
              subst hE
              exact ⟨X, K, bb, hN, by have := HXL.out; omega, fun v hv => (HXO.out v hv).2, fun j _ => ix_lim HKO.out j, HBL.out⟩)
            clear hN
            go_upto_region 20 with (go_at_call 44; (with_reducible refine (norm_any _ _ X K (bb) _ HIX.out HIK.out HBI.out).mono ?_); rintro e w7 ⟨vp, e7, hq, hb7⟩; rw [HN.out] at e7 hq; subst e7; obtain ⟨ul, uk, rfl, hq1, hq2, hq3, hq4, hq5⟩ := hq; obtain ⟨al, cl, rfl⟩ := hq1.slen; obtain ⟨ak, ck, rfl⟩ := hq2.slen; have hal := bal (Below.refl w7.heap.size w7) (.cells #[.slice al c.lits.length cl, .slice ak c.coefs.length ck, .int .i64 c.bound] 25); have HX8 := Lib.hid (Blk.new w7 [.slice al c.lits.length cl, .slice ak c.coefs.length ck, .int .i64 c.bound] 25); have hzz := HBB.out.size; have HPX : Hid (PBX w (w7.alloc (.cells #[.slice al c.lits.length cl, .slice ak c.coefs.length ck, .int .i64 c.bound] 25)) (c, .slice al c.lits.length cl, .slice ak c.coefs.length ck)) := Lib.hid (PBX.own ((hq1.below hal).mono hzz) ((hq2.below hal).mono hzz) hq3 hq4 hq5); have HR7 := Lib.hid ((HRW.out.below hb7).below hal); have HB8 := Lib.hid (bon (bon HBB.out hb7) hal); clear hq1 hq2 hq3 hq4 hq5 hb7 hzz hal)
            generalize w7.alloc (.cells #[.slice al c.lits.length cl, .slice ak c.coefs.length ck, .int .i64 c.bound] 25) = w8 at *
            have kx8 := HX8.out.cell
            by_cases hE : E = 0
            · subst hE
              go_wp2_with (at_builtin; go_must (refine wpList_appendRP rfl _ _ rfl w _ L (c, .slice al c.lits.length cl, .slice ak c.coefs.length ck) rfl (HR7.out.below (bal (Below.refl w8.heap.size w8) (.cells #[.slice al c.lits.length cl, .slice ak c.coefs.length ck, .int .i64 c.bound] 25))) w8.heap.size 1 rfl (Blk.new w8 _ _) (HPX.out.below (bal (Below.refl w8.heap.size w8) (.cells #[.slice al c.lits.length cl, .slice ak c.coefs.length ck, .int .i64 c.bound] 25))) (by have := HLK.out; omega) (bal HB8.out _) ?_); intro g9 cap9 w9 hr9 hg9 hb9; have HR9 := Lib.hid hr9; have HB9 := Lib.hid hb9; clear hr9 hg9 hb9)
              first
                | (go_roundw
                   case rel => (exact ⟨k + 1, L ++ [(c, .slice al c.lits.length cl, .slice ak c.coefs.length ck)], hlt, by go_num, HR9.out, HB9.out, by (rw [List.length_append]; have := HLK.out; simp; omega), fun q hq => by (rcases List.mem_append.1 hq with hq | hq; (exact HLOK.out q hq); (rw [List.mem_singleton.1 hq]; exact HOKE.out rfl))⟩)
                   case measure => (simp [intOf]; omega))
                | (refine ⟨?_, ?_⟩
                   · (exact ⟨k + 1, L ++ [(c, .slice al c.lits.length cl, .slice ak c.coefs.length ck)], hlt, by go_num, HR9.out, HB9.out, by (rw [List.length_append]; have := HLK.out; simp; omega), fun q hq => by (rcases List.mem_append.1 hq with hq | hq; (exact HLOK.out q hq); (rw [List.mem_singleton.1 hq]; exact HOKE.out rfl))⟩)
                   · (simp [intOf]; omega))
            · have hEb : (E == 0) = false := by simp [hE]
              clear hE
              go_wp2
              first
                | (go_roundw
                   case rel => (exact ⟨k + 1, L, hlt, by go_num, HR7.out, HB8.out, by (have := HLK.out; omega), HLOK.out⟩)
                   case measure => (simp [intOf]; omega))
                | (refine ⟨?_, ?_⟩
                   · (exact ⟨k + 1, L, hlt, by go_num, HR7.out, HB8.out, by (have := HLK.out; omega), HLOK.out⟩)
                   · (simp [intOf]; omega))
          · have HI1 : Hid (InI 1) := Lib.hid (by unfold InI; omega)
            obtain ⟨⟨c, E⟩, hN⟩ : ∃ N, normP X K (1) = N := ⟨_, rfl⟩
            have HN := Lib.hid hN
            have HOKE : Hid (E = 0 → SmallC c) := Lib.hid (fun hE => by
              subst hE
              exact ⟨X, K, 1, hN, by have := HXL.out; omega, fun v hv => (HXO.out v hv).2, fun j _ => ix_lim HKO.out j, ⟨by decide, by decide⟩⟩)
            clear hN
            go_upto_region 20 with (go_at_call 44; (with_reducible refine (norm_any _ _ X K (1) _ HIX.out HIK.out HI1.out).mono ?_); rintro e w7 ⟨vp, e7, hq, hb7⟩; rw [HN.out] at e7 hq; subst e7; obtain ⟨ul, uk, rfl, hq1, hq2, hq3, hq4, hq5⟩ := hq; obtain ⟨al, cl, rfl⟩ := hq1.slen; obtain ⟨ak, ck, rfl⟩ := hq2.slen; have hal := bal (Below.refl w7.heap.size w7) (.cells #[.slice al c.lits.length cl, .slice ak c.coefs.length ck, .int .i64 c.bound] 25); have HX8 := Lib.hid (Blk.new w7 [.slice al c.lits.length cl, .slice ak c.coefs.length ck, .int .i64 c.bound] 25); have hzz := HBB.out.size; have HPX : Hid (PBX w (w7.alloc (.cells #[.slice al c.lits.length cl, .slice ak c.coefs.length ck, .int .i64 c.bound] 25)) (c, .slice al c.lits.length cl, .slice ak c.coefs.length ck)) := Lib.hid (PBX.own ((hq1.below hal).mono hzz) ((hq2.below hal).mono hzz) hq3 hq4 hq5); have HR7 := Lib.hid ((HRW.out.below hb7).below hal); have HB8 := Lib.hid (bon (bon HBB.out hb7) hal); clear hq1 hq2 hq3 hq4 hq5 hb7 hzz hal)
            generalize w7.alloc (.cells #[.slice al c.lits.length cl, .slice ak c.coefs.length ck, .int .i64 c.bound] 25) = w8 at *
            have kx8 := HX8.out.cell
            by_cases hE : E = 0
            · subst hE
              go_wp2_with (at_builtin; go_must (refine wpList_appendRP rfl _ _ rfl w _ L (c, .slice al c.lits.length cl, .slice ak c.coefs.length ck) rfl (HR7.out.below (bal (Below.refl w8.heap.size w8) (.cells #[.slice al c.lits.length cl, .slice ak c.coefs.length ck, .int .i64 c.bound] 25))) w8.heap.size 1 rfl (Blk.new w8 _ _) (HPX.out.below (bal (Below.refl w8.heap.size w8) (.cells #[.slice al c.lits.length cl, .slice ak c.coefs.length ck, .int .i64 c.bound] 25))) (by have := HLK.out; omega) (bal HB8.out _) ?_); intro g9 cap9 w9 hr9 hg9 hb9; have HR9 := Lib.hid hr9; have HB9 := Lib.hid hb9; clear hr9 hg9 hb9)
              first
                | (go_roundw
                   case rel => (exact ⟨k + 1, L ++ [(c, .slice al c.lits.length cl, .slice ak c.coefs.length ck)], hlt, by go_num, HR9.out, HB9.out, by (rw [List.length_append]; have := HLK.out; simp; omega), fun q hq => by (rcases List.mem_append.1 hq with hq | hq; (exact HLOK.out q hq); (rw [List.mem_singleton.1 hq]; exact HOKE.out rfl))⟩)
                   case measure => (simp [intOf]; omega))
                | (refine ⟨?_, ?_⟩
                   · (exact ⟨k + 1, L ++ [(c, .slice al c.lits.length cl, .slice ak c.coefs.length ck)], hlt, by go_num, HR9.out, HB9.out, by (rw [List.length_append]; have := HLK.out; simp; omega), fun q hq => by (rcases List.mem_append.1 hq with hq | hq; (exact HLOK.out q hq); (rw [List.mem_singleton.1 hq]; exact HOKE.out rfl))⟩)
                   · (simp [intOf]; omega))
            · have hEb : (E == 0) = false := by simp [hE]
              clear hE
              go_wp2
              first
                | (go_roundw
                   case rel => (exact ⟨k + 1, L, hlt, by go_num, HR7.out, HB8.out, by (have := HLK.out; omega), HLOK.out⟩)
                   case measure => (simp [intOf]; omega))
                | (refine ⟨?_, ?_⟩
                   · (exact ⟨k + 1, L, hlt, by go_num, HR7.out, HB8.out, by (have := HLK.out; omega), HLOK.out⟩)
                   · (simp [intOf]; omega))
    · have hkn : k = n := by omega
      have HPB : Hid (PBsIs wr (.slice ao L.length co) (L.map (·.1))) := Lib.hid (HROW.out.pbs HBW0.out rfl (by have := HLK.out; omega))
      have HLK2 : Hid (L.length ≤ 24) := Lib.hid (by have := HLK.out; omega)
      clear hbw hkn
      go_wp2
      go_ret
      refine ⟨ao, L.map (·.1), co, by rw [List.length_map]; rfl, by rw [List.length_map]; exact HPB.out, fun c hc => ?_, by rw [List.length_map]; exact HLK2.out, HBW0.out⟩
      obtain ⟨q, hq, rfl⟩ := List.mem_map.1 hc
      exact HLOK.out q hq
theorem pbs_src {w : World} {x : Value} {l : List PBC} {vl vk : Nat → Value} (h : Rows w x 3 56 l.length (fun i => pbCell (ixC l i) (vl i) (vk i))) (hs : ∀ i, i < l.length → PBSl w (ixC l i) (vl i) (vk i)) :
    _root_.Go.Src Tryz.prog 3 22 x l.length ((clP l vl vk).flatMap cells3) w := by
  obtain ⟨a, c, rfl, -, -, -, hc⟩ := h
  have hfl : ((clP l vl vk).flatMap cells3).length = l.length * 3 := by rw [flat3_len, clP_len]
  have hone : ∀ u ∈ (clP l vl vk).flatMap cells3, u.oneCell' = true := fun u hu => by
    obtain ⟨q, hq, hu⟩ := List.mem_flatMap.1 hu
    unfold clP at hq
    obtain ⟨i, hi, rfl⟩ := List.mem_map.1 hq
    have h1 := hs i (List.mem_range.1 hi)
    obtain ⟨_, _, e1, -⟩ := h1.lits.form
    obtain ⟨_, _, e2, -⟩ := h1.coefs.form
    simp only [cells3, e1, e2, List.mem_cons, List.not_mem_nil, or_false] at hu
    rcases hu with rfl | rfl | rfl <;> rfl
  rcases Nat.eq_zero_or_pos l.length with h0 | h0
  · have e : (clP l vl vk).flatMap cells3 = [] := List.eq_nil_of_length_eq_zero (by rw [hfl, h0])
    rw [e, h0]
    cases a with
    | none => exact _root_.Go.Src.ofNil w Tryz.underlying22 c
    | some a => exact _root_.Go.Src.ofSlice w Tryz.underlying22 a 0 c [] (by simp) (fun j u hu => by simp at hu) (fun u hu => by simp at hu)
  · obtain ⟨b, off, rfl, -, hcc⟩ := hc h0
    refine _root_.Go.Src.ofSlice w Tryz.underlying22 ⟨b, off, none⟩ _ c _ hfl (fun j u hu => ?_) hone
    have hj : j < l.length * 3 := by
      have := (List.getElem?_eq_some_iff.1 hu).1
      rwa [hfl] at this
    have h6 := flat3 (clP l vl vk) (j / 3) (j % 3) (by rw [clP_len]; omega) (by omega)
    rw [clP_at (by omega), show j / 3 * 3 + j % 3 = j by omega, hu] at h6
    rw [Addr.add_lit, show off + j = off + j / 3 * 3 + j % 3 by omega, hcc (j / 3) (by omega) (j % 3) (by omega), h6]
    rcases (show j % 3 = 0 ∨ j % 3 = 1 ∨ j % 3 = 2 by omega) with e | e | e <;> rw [e] <;> rfl
theorem upon_appendP {w0 w : World} {x : Value} {l : List PBC} {L0 : List CQ} {b0 n0 : Nat} (ty : TypeId) (hb0 : Below w0.heap.size w0 w) (hx : PBsIs w0 x l) (hlo : w0.heap.size ≤ b0) (hb : Blk w b0 (L0.flatMap cells3) 25) (h0 : ∀ q ∈ L0, PBX w0 w q) (hn0 : n0 = L0.length) (hl : L0.length + l.length ≤ 900000) :
    ∃ a c L w', (Builtin.append_ #[22, 22] ty #[.slice (some ⟨b0, 0, none⟩) n0 n0, x]).run Tryz.prog w = .ok (.slice a (n0 + l.length) c) w' ∧ Below w.heap.size w w' ∧ RowP w0 (.slice a (n0 + l.length) c) L w' ∧ L.map (·.1) = L0.map (·.1) ++ l := by
  subst hn0
  obtain ⟨vl, vk, hrw, h4⟩ := hx
  have hw := hrw.below hb0
  have h4' : ∀ i, i < l.length → PBSl w (ixC l i) (vl i) (vk i) := fun i hi => (h4 i hi).below hb0
  obtain ⟨i, hi, hz, hsz, hby⟩ := info_parts infoC
  have hsrc := pbs_src hw h4'
  rw [← hsz] at hsrc
  have hfl0 := flat3_len L0
  have hfl := flat3_len (clP l vl vk)
  rw [clP_len] at hfl
  have hfst : (clP l vl vk).map (·.1) = l := clP_fst l vl vk
  rcases Nat.eq_zero_or_pos l.length with hz0 | hp
  · have hl0 : l = [] := List.length_eq_zero_iff.1 hz0
    subst hl0
    have e : (clP [] vl vk).flatMap cells3 = [] := rfl
    rw [e] at hsrc
    have hbb := hb
    unfold Blk at hbb
    have := run_append_room_src (P := Tryz.prog) w 22 22 ty 25 i Tryz.underlying22 hi b0 0 L0.length L0.length x 0 [] hsrc (by omega) (fun j hj => by simp at hj) (fun j hj => by simp at hj)
    refine ⟨some ⟨b0, 0, none⟩, L0.length, L0, w, this, Below.refl _ _, ⟨⟨by rw [hfl0], .inr ⟨b0, L0.length, _, rfl, hlo, hbb, Nat.le_refl _, by unfold maxLen; omega, by simp [hfl0], ?_⟩⟩, h0⟩, by simp⟩
    dsimp only
    rw [← hfl0, List.take_length]
  · have hr := run_append_grow_src (P := Tryz.prog) w 22 22 ty 25 i _ Tryz.underlying22 hi hz (some ⟨b0, 0, none⟩) L0.length L0.length (L0.flatMap cells3) (by
      refine run_firstCells_some (P := Tryz.prog) w.drew i.size L0.length ⟨b0, 0, none⟩ L0.length L0.length _ (by rw [hfl0, hsz]) (fun j u hu => ?_)
      rw [Addr.add_lit, Nat.zero_add]
      exact (hb.cell j).trans hu) x l.length _ hsrc (by omega) (by omega) (growslice_fits (by omega) (by rw [hby]; omega))
    have hge := grownCap_ge w (L0.length + l.length) L0.length 25
    have hgm := grownCap_le_maxLen w (L0.length + l.length) L0.length 25 (by unfold maxLen; omega)
    have hbel : Below w.heap.size w (w.drew.alloc (.cells ((L0.flatMap cells3 ++ (clP l vl vk).flatMap cells3).toArray ++ Builtin.zeroCells (Value.agg #[.slice none 0 0, .slice none 0 0, .int .i64 0]).cells (grownCap w (L0.length + l.length) L0.length 25 - (L0.length + l.length))) 25)) := bal (Below.refl _ _).drew _
    refine ⟨_, _, L0 ++ clP l vl vk, _, hr, hbel, ⟨?_, fun q hq => ?_⟩, by rw [List.map_append, hfst]⟩
    · have hlen : (L0 ++ clP l vl vk).length = L0.length + l.length := by rw [List.length_append, clP_len]
      rw [hlen]
      refine ⟨by rw [List.flatMap_append, List.length_append, hfl0, hfl]; omega, .inr ⟨w.heap.size, _, _, rfl, hb0.size, heap_alloc_new w.drew _, hge, hgm, ?_, ?_⟩⟩
      · simp only [Array.size_append, List.size_toArray, List.length_append, hfl0, hfl]
        have : ∀ n, (Builtin.zeroCells (Value.agg #[.slice none 0 0, .slice none 0 0, .int .i64 0]).cells n).size = n * 3 := fun n => by simp [Builtin.zeroCells, Value.cells]
        rw [this]; omega
      · rw [Array.toList_append, List.take_append_of_le_length (by simp only [List.length_append, hfl0, hfl]; omega), List.flatMap_append, List.take_of_length_le (by rw [List.length_append, hfl0, hfl]; omega)]
    · rcases List.mem_append.1 hq with hq | hq
      · exact (h0 q hq).below hbel
      · unfold clP at hq
        obtain ⟨i, hi, rfl⟩ := List.mem_map.1 hq
        have hs := h4 i (List.mem_range.1 hi)
        exact ⟨.old hs.lits, .old hs.coefs, hs.bound⟩
theorem memUpon_appendP {o : Oper} {a : Act} {w w' : World} {Post : Value → World → Prop} (s x : Operand) {v y v' : Value}
    (ho : o.op = .call { callee := .builtin .append, args := #[s, x], argTypes := #[22, 22] }) (hs : a.eval s = v) (hx : a.eval x = y) (hr : (Builtin.append_ #[22, 22] o.type #[v, y]).run Tryz.prog w = .ok v' w') (hP : Post v' w') :
    memUpon Tryz.prog Post ((execOp a.eval o).run Tryz.prog w) := by
  unfold execOp
  simp only [ho, resolve, invoke, builtin, Sem.run_bind, Sem.run_pure, Result.andThen_ok, List.map_toArray, List.map_cons, List.map_nil, hs, hx, hr]
  exact hP
def asgB (bits : Int) (n : Nat) : List Int := (List.range n).map fun j => if bitAt bits j = true then 1 else -1
def asF (bits : Int) (k j : Nat) : Int := if j < k then (if bitAt bits j = true then 1 else -1) else 0
theorem asgB_len (bits : Int) (n : Nat) : (asgB bits n).length = n := by simp [asgB]
theorem asgB_ix (bits : Int) {n j : Nat} (hj : j < n) : ix (asgB bits n) j = if bitAt bits j = true then 1 else -1 := by
  unfold ix asgB
  rw [List.getD_eq_getElem?_getD, List.getElem?_map, List.getElem?_range hj]
  rfl
theorem asgB_tot (bits : Int) (n : Nat) : Total (asgB bits n) := fun j hj => by
  rw [asgB_len] at hj
  rw [asgB_ix bits hj]
  split
  · exact .inl rfl
  · exact .inr rfl
theorem asgB_fn (bits : Int) (n : Nat) : fnL n (asF bits n) = (asgB bits n).map (Value.int .i8) := by
  unfold fnL asgB
  rw [List.map_map]
  refine List.map_congr_left fun j hj => ?_
  have := List.mem_range.1 hj
  show Value.int .i8 (asF bits n j) = Value.int .i8 _
  unfold asF
  rw [if_pos this]
def Su26Rel2 (W : World) (bits : Int) (n b : Nat) (i : Value) (wx : World) : Prop :=
  ∃ k : Nat, k ≤ n ∧ i = .int .i64 k ∧ Blk wx b (fnL n (asF bits k)) 52 ∧ Below W.heap.size W wx
attribute [local go_sem ↓] Go.wp_at_zero Go.wp_at_succ
def zR : List Value := [.bool false, .slice none 0 0, .bool false, .int .i64 0, .slice none 0 0, .slice none 0 0]
structure PSt (r : GR) (m : List Int) (w : World) (k : Nat) (vh vb0 vw0 va vb : Value) (wx : World) : Prop where
  box : Blk wx w.heap.size [.bool r.choice, vh, .bool r.sum, .int .i64 r.bound, vb0, vw0] 66
  res : Blk wx (w.heap.size + 1) zR 66
  out : Blk wx (w.heap.size + 1 + 1) [.bool false, .slice none 0 0, .bool r.sum, .int .i64 (redAt m r k).bound, va, vb] 66
  body : QRow (w.heap.size + 1 + 1 + 1) wx va (fstL (posP r k))
  wts : QRow (w.heap.size + 1 + 1 + 1) wx vb (if r.sum then sndL (posP r k) else [])
  apart : ∀ i, va.ownBlock = some i → vb.ownBlock ≠ some i
  below : Below w.heap.size w wx
  size : w.heap.size + 1 + 1 + 1 ≤ wx.heap.size
theorem PSt.on {r : GR} {m : List Int} {w wx wy : World} {k : Nat} {vh vb0 vw0 va vb : Value} (h : PSt r m w k vh vb0 vw0 va vb wx) (hb : Below wx.heap.size wx wy) : PSt r m w k vh vb0 vw0 va vb wy :=
  ⟨h.box.below hb, h.res.below hb, h.out.below hb, h.body.below hb, h.wts.below hb, h.apart, bon h.below hb, Nat.le_trans h.size hb.size⟩
theorem pos_skip {r : GR} {k : Nat} (h : ¬ 0 < ix r.body k) : posP r (k + 1) = posP r k := by
  rw [posP, if_neg h]
end Go.Proofs.YteblddnoegbalaaGreat
namespace Go.Proofs.YteblddnoegbalaaGreat
open Go.RowKit
attribute [local go_sem ↓] Go.wp_at_zero Go.wp_at_succ
theorem PSt.start (r : GR) (m : List Int) (w : World) (vh vb vw : Value) : PSt r m w 0 vh vb vw (.slice none 0 0) (.slice none 0 0) ((((w.alloc (.cells #[.bool r.choice, vh, .bool r.sum, .int .i64 r.bound, vb, vw] 66)).alloc (.cells #[.bool false, .slice none 0 0, .bool false, .int .i64 0, .slice none 0 0, .slice none 0 0] 66)).alloc (.cells #[.bool false, .slice none 0 0, .bool r.sum, .int .i64 r.bound, .slice none 0 0, .slice none 0 0] 66))) := by
  refine ⟨(by repeat first | (refine Blk.newAt _ _ _ ?_; first | rfl | (simp only [World.size_alloc]; done) | (simp only [World.size_alloc]; omega)) | refine Blk.alloc ?_ _), (by repeat first | (refine Blk.newAt _ _ _ ?_; first | rfl | (simp only [World.size_alloc]; done) | (simp only [World.size_alloc]; omega)) | refine Blk.alloc ?_ _), ?_, QRow.nil _ _, ?_, (fun i e => by cases e), (by (repeat first | exact Below.refl _ _ | (refine Below.setCell ?_ (by first | omega | (simp; done) | (simp; omega)) _) | (refine bal ?_ _))), by simp⟩
  · have e : (redAt m r 0).bound = r.bound := by unfold redAt; split <;> simp [negW]
    rw [e]; exact (by repeat first | (refine Blk.newAt _ _ _ ?_; first | rfl | (simp only [World.size_alloc]; done) | (simp only [World.size_alloc]; omega)) | refine Blk.alloc ?_ _)
  · have : (if r.sum then sndL (posP r 0) else []) = [] := by split <;> rfl
    rw [this]; exact QRow.nil _ _
theorem PSt.next {r : GR} {m : List Int} {w wx : World} {k : Nat} {vh vb0 vw0 va vb : Value} (h : PSt r m w k vh vb0 vw0 va vb wx) (h0 : ¬ 0 < ix r.body k) (hb : (redAt m r (k + 1)).bound = (redAt m r k).bound) : PSt r m w (k + 1) vh vb0 vw0 va vb wx := by
  obtain ⟨h1, h2, h3, h4, h5, h6, h7, h8⟩ := h
  have e : posP r (k + 1) = posP r k := pos_skip h0
  exact ⟨h1, h2, by rw [hb]; exact h3, by rw [e]; exact h4, by rw [e]; exact h5, h6, h7, h8⟩
end Go.Proofs.YteblddnoegbalaaGreat
namespace Go.Proofs.YteblddnoegbalaaGreat
open Go.RowKit
def rowOf (rb : Nat) (w : World) : Option Nat := (w.cell? ⟨rb, 0, none⟩).bind Value.ownBlock
def CK (rb : Nat) (W W' : World) : Prop :=
  ((∀ g, rowOf rb W = some g → g < W.heap.size) → ∀ g, rowOf rb W' = some g → g < W'.heap.size) ∧
  ∀ i o, W.heap[i]? = some o → o.isCells = true → i ≠ rb → rowOf rb W ≠ some i → W'.heap[i]? = some o ∧ rowOf rb W' ≠ some i
theorem CK.trans {rb : Nat} {A B C : World} (h : CK rb A B) (k : CK rb B C) : CK rb A C :=
  ⟨fun h0 => k.1 (h.1 h0), fun i o h1 h2 h3 h4 => let ⟨h5, h6⟩ := h.2 i o h1 h2 h3 h4; k.2 i o h5 h2 h3 h6⟩
def RKp (n0 rb : Nat) (W W' : World) : Prop := Lim n0 [rb] W W' ∧ CK rb W W'
theorem rowOf_same {rb : Nat} {W W' : World} (h : W'.heap[rb]? = W.heap[rb]?) : rowOf rb W' = rowOf rb W := by
  unfold rowOf; rw [World.cell?_of_block h]
theorem RKp.trans {n0 rb : Nat} {A B C : World} (h : RKp n0 rb A B) (k : RKp n0 rb B C) : RKp n0 rb A C := ⟨h.1.trans k.1, h.2.trans k.2⟩
theorem CK.put {rb l : Nat} {W : World} {o o' : Obj} (h : W.heap[l]? = some o) (hc : o.isCells = false) (hne : l ≠ rb) : CK rb W (W.putObj l o') := by
  have hrb : (W.putObj l o').heap[rb]? = W.heap[rb]? := World.putObj_heap_other (fun e => hne e.symm)
  have hsz : (W.putObj l o').heap.size = W.heap.size := by simp [World.putObj]
  refine ⟨fun h0 g hg => ?_, fun i o1 h1 h2 h3 h4 => ⟨?_, ?_⟩⟩
  · rw [rowOf_same hrb] at hg; rw [hsz]; exact h0 g hg
  · refine (World.putObj_heap_other (fun e => ?_)).trans h1
    subst e
    rw [h] at h1
    cases h1
    rw [hc] at h2; cases h2
  · rw [rowOf_same hrb]; exact h4
theorem CK.below {rb : Nat} {W W' : World} (h : Below W.heap.size W W') (hrb : rb < W.heap.size) : CK rb W W' := by
  have hr := rowOf_same (h.block rb hrb)
  exact ⟨fun h0 g hg => by rw [hr] at hg; have := h0 g hg; have := h.size; omega, fun i o h1 h2 h3 h4 => ⟨(h.block i (Array.getElem?_eq_some_iff.1 h1).1).trans h1, by rw [hr]; exact h4⟩⟩
theorem CK.blk {rb : Nat} {W W' : World} (h : CK rb W W') {b : Nat} {c : List Value} {t : TypeId} (hb : Blk W b c t) (h1 : b ≠ rb) (h2 : rowOf rb W ≠ some b) : Blk W' b c t ∧ rowOf rb W' ≠ some b := h.2 b _ hb rfl h1 h2
theorem CK.row {rb base : Nat} {W W' : World} (h : CK rb W W') {v : Value} {l : List Int} (hq : QRow base W v l) (hrb : rb < base) (hf : ∀ i, v.ownBlock = some i → rowOf rb W ≠ some i) : QRow base W' v l ∧ ∀ i, v.ownBlock = some i → rowOf rb W' ≠ some i := by
  rcases hq.2 with ⟨rfl, rfl⟩ | ⟨g, off, cap, cur, rfl, hb, hg, r⟩
  · exact ⟨QRow.nil _ _, fun i e => by cases e⟩
  · have h1 := h.2 g _ hg rfl (by omega) (hf g rfl)
    exact ⟨⟨hq.1, .inr ⟨g, off, cap, cur, rfl, hb, h1.1, r⟩⟩, fun i e => by simp only [Value.ownBlock, Option.some.injEq] at e; subst e; exact h1.2⟩
theorem Blk.lim {n rb b : Nat} {w w' : World} {c : List Value} {t : TypeId} (h : Blk w b c t) (hl : Lim n [rb] w w') (hb : b < n) (hne : b ≠ rb) : Blk w' b c t := h.same (hl.block b hb (by simpa using hne))
theorem Blk.ne_ty {w : World} {b b' : Nat} {c c' : List Value} {t t' : TypeId} (h : Blk w b c t) (k : Blk w b' c' t') (hne : t ≠ t') : b ≠ b' := fun e => by
  subst e
  unfold Blk at h k
  rw [h] at k
  injection k with k
  injection k with _ k _
  exact hne k
theorem MapIs.ne_blk {w : World} {bm b : Nat} {g : Int → Option Value} {c : List Value} {t : TypeId} (h : MapIs (Value.int .i64) w bm g) (k : Blk w b c t) : bm ≠ b := fun e => by
  subst e
  obtain ⟨es, clock, hm, -⟩ := h
  unfold Blk at k
  rw [hm] at k
  cases k
theorem InM.lim {w w' : World} {mb rb : Nat} {m : List Int} {c : List Value} (h : InM w mb m) (hr : Blk w rb c 30) (hl : Lim w.heap.size [rb] w w') : InM w' mb m := by
  obtain ⟨b, G, h1, h2, h3⟩ := h
  refine ⟨b, G, h1.lim hl h1.lt (h1.ne_ty hr (by decide)), h2.same (hl.block b h2.lt ?_), h3⟩
  simpa using MapIs.ne_blk h2 hr
def RedR (B : Nat) (q : RQ) (W : World) : Prop := q.1.choice = false ∧ QRow B W q.2.1 q.1.head ∧ QRow B W q.2.2.1 q.1.body ∧ QRow B W q.2.2.2 q.1.w ∧ InI q.1.bound
structure ChSt (rb n1 t5 t6 : Nat) (c5 c6 : List Value) (va vb : Value) (lb lw : List Int) (wy : World) : Prop where
  row : ∀ g, rowOf rb wy = some g → g < wy.heap.size
  b5 : Blk wy t5 c5 66
  n5 : rowOf rb wy ≠ some t5
  b6 : Blk wy t6 c6 66
  n6 : rowOf rb wy ≠ some t6
  qa : QRow n1 wy va lb
  na : ∀ i, va.ownBlock = some i → rowOf rb wy ≠ some i
  qb : QRow n1 wy vb lw
  nb : ∀ i, vb.ownBlock = some i → rowOf rb wy ≠ some i
  lo : rb < n1
  l5 : rb < t5
  l6 : rb < t6
  top : n1 ≤ wy.heap.size
theorem ChSt.ck {rb n1 t5 t6 : Nat} {c5 c6 : List Value} {va vb : Value} {lb lw : List Int} {wy wz : World} (h : ChSt rb n1 t5 t6 c5 c6 va vb lb lw wy) (k : CK rb wy wz) (hz : wy.heap.size ≤ wz.heap.size) : ChSt rb n1 t5 t6 c5 c6 va vb lb lw wz := by
  have h5 := h.l5
  have h6 := h.l6
  have ht := h.top
  have e5 := k.blk h.b5 (by omega) h.n5
  have e6 := k.blk h.b6 (by omega) h.n6
  have ea := k.row h.qa h.lo h.na
  have eb := k.row h.qb h.lo h.nb
  exact ⟨k.1 h.row, e5.1, e5.2, e6.1, e6.2, ea.1, ea.2, eb.1, eb.2, h.lo, h5, h6, by omega⟩
theorem ChSt.below {rb n1 t5 t6 : Nat} {c5 c6 : List Value} {va vb : Value} {lb lw : List Int} {wy wz : World} (h : ChSt rb n1 t5 t6 c5 c6 va vb lb lw wy) (k : Below wy.heap.size wy wz) : ChSt rb n1 t5 t6 c5 c6 va vb lb lw wz :=
  h.ck (CK.below k (by have := h.lo; have := h.top; omega)) k.size
theorem QRow.one {base g : Nat} {w : World} {a : Int} (h : Blk w g [.int .i64 a] 3) (hb : base ≤ g) (ha : InI a) : QRow base w (.slice (some ⟨g, 0, none⟩) 1 1) [a] := by
  refine ⟨fun i => ?_, .inr ⟨g, 0, 1, #[.int .i64 a], rfl, hb, h, by simp, by unfold maxLen; omega, by simp, fun i hi => ?_⟩⟩
  · cases i with
    | zero => exact ha
    | succ i => simp [ix]
  · obtain rfl : i = 0 := by simp at hi; omega
    rfl
structure RD (w : World) (vo vn : Value) (T U : List Int) (wx : World) : Prop where
  ro : QRow (w.heap.size + 1) wx vo T
  rn : QRow (w.heap.size + 1) wx vn U
  far : Far vo vn
  box : Blk wx w.heap.size pbZ 25
  below : Below w.heap.size w wx
section
variable {w wx wy : World} {vo vn vo' vn' : Value} {T U T' U' : List Int}
theorem RD.on (h : RD w vo vn T U wx) (hb : Below wx.heap.size wx wy) : RD w vo vn T U wy :=
  ⟨h.ro.below hb, h.rn.below hb, h.far, h.box.below hb, bon h.below hb⟩
theorem RD.alloc (h : RD w vo vn T U wx) (o : Obj) : RD w vo vn T U (wx.alloc o) := h.on (bal (Below.refl wx.heap.size wx) o)
end
structure RU (B : Nat) (vo vn : Value) (L : List CQ) (N : List Int) (wx : World) : Prop where
  row : MineC B vo L wx
  neg : QRow B wx vn N
  far : ∀ q ∈ L, ∀ g, vn.ownBlock = some g → q.2.1.ownBlock ≠ some g ∧ q.2.2.ownBlock ≠ some g
section
variable {B : Nat} {vo vn vn' : Value} {L : List CQ} {N N' : List Int} {wx wy : World}
theorem RU.start (B : Nat) (wx : World) : RU B (.slice none 0 0) (.slice none 0 0) [] [] wx := ⟨MineC.nil B wx, QRow.nil _ _, fun q hq => by simp at hq⟩
theorem RU.on (h : RU B vo vn L N wx) (hb : Below wx.heap.size wx wy) : RU B vo vn L N wy := ⟨h.row.below hb, h.neg.below hb, h.far⟩
theorem MineC.base {v : Value} (h : MineC B v L wx) {q : CQ} (hq : q ∈ L) {g : Nat} (e : q.2.1.ownBlock = some g ∨ q.2.2.ownBlock = some g) : g < wx.heap.size := by
  obtain ⟨h1, h2, -⟩ := h.each q hq
  rcases e with e | e
  · exact (h1.base e).2
  · exact (h2.base e).2
theorem rowC_ne (h : wx.ownsRow B 25 3 vo L.length (L.flatMap cells3)) (hn : QRow B wx vn N) : vo.ownBlock = none ∨ vo.ownBlock ≠ vn.ownBlock := by
  rcases h.2 with ⟨rfl, _⟩ | ⟨g, cap, cur, rfl, _, hg, _⟩
  · exact .inl rfl
  · exact .inr fun e => hn.far (b := g) (c := cur.toList) (T := 25) (by unfold Blk; rw [hg]) (by decide) e.symm
theorem RU.grow (h : RU B vo vn L N wx) (hq : QRow B wy vn' N') (hg : wx.grownBy wy vn.ownBlock) (ho : vn'.ownBlock = vn.ownBlock ∨ vn'.ownBlock = some wx.heap.size) : RU B vo vn' L N' wy := by
  refine ⟨⟨h.row.row.kept hg (rowC_ne h.row.row h.neg), fun q hm => ?_⟩, hq, fun q hm g e => ?_⟩
  · obtain ⟨h1, h2, h3⟩ := h.row.each q hm
    exact ⟨h1.kept fun i _ hi hv => hg.block i hi fun e => (h.far q hm i e.symm).1 hv, h2.kept fun i _ hi hv => hg.block i hi fun e => (h.far q hm i e.symm).2 hv, h3⟩
  · rcases ho with h1 | h1
    · exact h.far q hm g (h1 ▸ e)
    · rw [h1] at e
      obtain rfl := Option.some.inj e
      exact ⟨fun e2 => absurd (h.row.base hm (.inl e2)) (Nat.lt_irrefl _), fun e2 => absurd (h.row.base hm (.inr e2)) (Nat.lt_irrefl _)⟩
theorem RU.push {g cap : Nat} {q : CQ} (h : RU B vo vn L N wx) (hq : QRow B wx q.2.1 q.1.lits ∧ QRow B wx q.2.2 q.1.coefs ∧ InI q.1.bound ∧ q.1.lits.length ≤ 65536 ∧ q.1.coefs.length ≤ 65536)
    (hf : ∀ g, vn.ownBlock = some g → q.2.1.ownBlock ≠ some g ∧ q.2.2.ownBlock ≠ some g)
    (hown : wy.ownsRow B 25 3 (.slice (some ⟨g, 0, none⟩) (L.length + 1) cap) (L.length + 1) (L.flatMap cells3 ++ cells3 q)) (hg : wx.grownBy wy vo.ownBlock) :
    RU B (.slice (some ⟨g, 0, none⟩) (L.length + 1) cap) vn (L ++ [q]) N wy := by
  refine ⟨h.row.push hq hown hg, h.neg.rowKeptC h.row.row hg, fun q' hm => ?_⟩
  rcases List.mem_append.1 hm with hm | hm
  · exact h.far q' hm
  · obtain rfl : q' = q := by simpa using hm
    exact hf
end
theorem RU.lt {B : Nat} {vo vn : Value} {L : List CQ} {N : List Int} {wx : World} (h : RU B vo vn L N wx) : ∀ g, vn.ownBlock = some g → g < wx.heap.size := fun _ e => (h.neg.base e).2
theorem RU.kept {B : Nat} {vo vn : Value} {L : List CQ} {N : List Int} {W wx wy : World} (h : RU B vo vn L N wx) (hb : Below W.heap.size W wx) (hB : W.heap.size ≤ B) (hg : wx.grownBy wy vo.ownBlock) : Below W.heap.size W wy :=
  hb.trans (below_row hg hb.size fun g e => Nat.le_trans hB (rowC_isC h.row.row g e).1)
structure RowsK (B : Nat) (live : Nat → Option (List Int)) (vals : Nat → Value) (wx : World) : Prop where
  row : ∀ i l, live i = some l → QRow B wx (vals i) l
  far : ∀ i j l m, live i = some l → live j = some m → i ≠ j → ∀ g, (vals i).ownBlock = some g → (vals j).ownBlock ≠ some g
section
variable {B k x : Nat} {live live' : Nat → Option (List Int)} {vals : Nat → Value} {wx wy : World} {v : Value} {l lx : List Int}
theorem RowsK.start (B : Nat) (vals : Nat → Value) (wx : World) (h : ∀ i l, live i ≠ some l) : RowsK B live vals wx := ⟨fun i l e => absurd e (h i l), fun i _ l _ e => absurd e (h i l)⟩
theorem RowsK.on (h : RowsK B live vals wx) (hb : Below wx.heap.size wx wy) : RowsK B live vals wy := ⟨fun i l e => (h.row i l e).below hb, h.far⟩
theorem RowsK.old (h : RowsK B live vals wx) (hl : ∀ i m, live' i = some m → live i = some m ∧ i ≠ k) : RowsK B live' (updN vals k v) wx := by
  have e : ∀ i m, live' i = some m → updN vals k v i = vals i := fun i m hi => by simp only [updN]; rw [if_neg (hl i m hi).2]
  refine ⟨fun i m hi => ?_, fun i j m n hi hj hij => ?_⟩
  · rw [e i m hi]; exact h.row i m (hl i m hi).1
  · rw [e i m hi, e j n hj]; exact h.far i j m n (hl i m hi).1 (hl j n hj).1 hij
theorem RowsK.new (h : RowsK B live vals wx) (hb : Below wx.heap.size wx wy) (hq : QRow wx.heap.size wy v l) (hB : B ≤ wx.heap.size) (hl : ∀ i m, live' i = some m → i = k ∧ m = l ∨ i ≠ k ∧ live i = some m) : RowsK B live' (updN vals k v) wy := by
  have e : ∀ i, i ≠ k → updN vals k v i = vals i := fun i hi => by simp only [updN]; rw [if_neg hi]
  have e0 : updN vals k v k = v := by simp [updN]
  have hlt : ∀ i m, live i = some m → ∀ g, (vals i).ownBlock = some g → g < wx.heap.size := fun i m hi g hg => ((h.row i m hi).base hg).2
  refine ⟨fun i m hi => ?_, fun i j m n hi hj hij g hg hg2 => ?_⟩
  · rcases hl i m hi with ⟨rfl, rfl⟩ | ⟨h1, h2⟩
    · rw [e0]; exact hq.mono hB
    · rw [e i h1]; exact (h.row i m h2).below hb
  · rcases hl i m hi with ⟨rfl, rfl⟩ | ⟨h1, h2⟩ <;> rcases hl j n hj with ⟨rfl, rfl⟩ | ⟨h3, h4⟩
    · exact hij rfl
    · rw [e0] at hg; rw [e j h3] at hg2
      have := (hq.base hg).1; have := hlt j n h4 g hg2; omega
    · rw [e0] at hg2; rw [e i h1] at hg
      have := (hq.base hg2).1; have := hlt i m h2 g hg; omega
    · rw [e i h1] at hg; rw [e j h3] at hg2
      exact h.far i j m n h2 h4 hij g hg hg2
theorem RowsK.app (h : RowsK B live vals wx) (hx : live x = some lx) (hq : QRow B wy v l) (hg : wx.grownBy wy (vals x).ownBlock) (ho : v.ownBlock = (vals x).ownBlock ∨ v.ownBlock = some wx.heap.size)
    (hl : ∀ i m, live' i = some m → i = k ∧ m = l ∨ i ≠ k ∧ i ≠ x ∧ live i = some m) : RowsK B live' (updN vals k v) wy := by
  have e : ∀ i, i ≠ k → updN vals k v i = vals i := fun i hi => by simp only [updN]; rw [if_neg hi]
  have e0 : updN vals k v k = v := by simp [updN]
  have hlt : ∀ i m, live i = some m → ∀ g, (vals i).ownBlock = some g → g < wx.heap.size := fun i m hi g hg => ((h.row i m hi).base hg).2
  have hnew : ∀ i m, live i = some m → i ≠ x → ∀ g, (vals i).ownBlock = some g → v.ownBlock ≠ some g := fun i m hi hix g e1 e2 => by
    rcases ho with ho | ho
    · rw [ho] at e2; exact h.far i x m lx hi hx hix g e1 e2
    · rw [ho] at e2; have := hlt i m hi g e1; have := Option.some.inj e2; omega
  refine ⟨fun i m hi => ?_, fun i j m n hi hj hij g hg1 hg2 => ?_⟩
  · rcases hl i m hi with ⟨rfl, rfl⟩ | ⟨h1, h1b, h2⟩
    · rw [e0]; exact hq
    · rw [e i h1]
      exact (h.row i m h2).kept fun b _ hb hv => hg.block b hb fun e3 => h.far i x m lx h2 hx h1b b hv e3.symm
  · rcases hl i m hi with ⟨rfl, rfl⟩ | ⟨h1, h1b, h2⟩ <;> rcases hl j n hj with ⟨rfl, rfl⟩ | ⟨h3, h3b, h4⟩
    · exact hij rfl
    · rw [e0] at hg1; rw [e j h3] at hg2; exact hnew j n h4 h3b g hg2 hg1
    · rw [e0] at hg2; rw [e i h1] at hg1; exact hnew i m h2 h1b g hg1 hg2
    · rw [e i h1] at hg1; rw [e j h3] at hg2
      exact h.far i j m n h2 h4 hij g hg1 hg2
theorem RowsK.below (h : RowsK B live vals wx) (hx : live x = some lx) {W : World} (hW : Below W.heap.size W wx) (hB : W.heap.size ≤ B) (hg : wx.grownBy wy (vals x).ownBlock) : Below W.heap.size W wy :=
  hW.trans (below_row hg hW.size fun _ e => Nat.le_trans hB ((h.row x lx hx).base e).1)
end
attribute [local go_sem] Oper.semAt_some memUpon
def MinR (R : List GR) (m : List Int) (rb : Nat) (c : Code) (pre : List (Nat × Value)) (W : World) : Prop :=
  ∃ (pre' : List (Nat × Value)) (k : Nat) (v : Value), c = .ret ∧ pre = pre' ++ [(k, v)] ∧ (∀ y ∈ pre', satR R (sbL m y.1) = false) ∧ satR R (sbL m k) = true ∧ Blk W rb [.bool (decide ((sbL m k).length = m.length))] 4
theorem MinR.own {R : List GR} {m : List Int} {rb B : Nat} (c : Code) : OwnFrom B (MinR R m rb c) := fun pre X Y row hs hg hr => by
  obtain ⟨pre', k, v, h1, h2, h3, h4, h5⟩ := hs
  exact ⟨pre', k, v, h1, h2, h3, h4, blk_own rb _ _ () X Y row h5 hg (fun r e => (hr r e).2)⟩
theorem MinR.is {R : List GR} {m : List Int} {rb : Nat} {c : Code} {pre : List (Nat × Value)} {W : World} (h : MinR R m rb c pre W) {k : Nat} (hk : k < 2 ^ m.length) (hp : pre.map (·.1) = List.range (k + 1)) :
    c = .ret ∧ ∃ b, Blk W rb [.bool b] 4 ∧ MinIs R m b := by
  obtain ⟨pre', q, v, h1, rfl, h3, h4, h5⟩ := h
  rw [List.map_append, List.range_succ] at hp
  obtain ⟨hp1, hp2⟩ := List.append_inj' hp rfl
  obtain rfl : q = k := by simpa using hp2
  refine ⟨h1, _, h5, .inl ⟨q, hk, fun j hj => ?_, h4, rfl⟩⟩
  have : j ∈ pre'.map (·.1) := by rw [hp1]; exact List.mem_range.2 hj
  obtain ⟨y, hy, e⟩ := List.mem_map.1 this
  rw [← e]
  exact h3 y hy
end Go.Proofs.YteblddnoegbalaaGreat
namespace Go.Proofs.YteblddnoegbalaaGreat
open Go.RowKit
section
variable {B : Nat} {w w' : World}
theorem QRow.ownT {v : Value} {l : List Int} {row : Option Nat} (h : QRow B w v l) (hg : w.grownBy w' row) (hr : ∀ r, row = some r → ∃ o : Obj, w.heap[r]? = some o ∧ o.isCells = false) : QRow B w' v l := by
  rcases h.2 with ⟨rfl, rfl⟩ | ⟨g, off, cap, cur, rfl, hb, hc, r⟩
  · exact QRow.nil _ _
  · refine h.kept fun i _ hi e => hg.block i hi (fun e2 => ?_)
    simp only [Value.ownBlock, Option.some.injEq] at e
    subst e
    obtain ⟨o, ho, hf⟩ := hr g e2.symm
    rw [hc] at ho
    cases ho
    cases hf
theorem Blk.ownT {b : Nat} {c : List Value} {t : TypeId} {row : Option Nat} (h : Blk w b c t) (hg : w.grownBy w' row) (hr : ∀ r, row = some r → ∃ o : Obj, w.heap[r]? = some o ∧ o.isCells = false) : Blk w' b c t :=
  h.same (hg.block b h.lt (fun e2 => by
    obtain ⟨o, ho, hf⟩ := hr b e2.symm
    rw [show w.heap[b]? = _ from h] at ho
    cases ho
    cases hf))
theorem Mine.ownT {v : Value} {L : List RQ} {row : Option Nat} (h : Mine B v L w) (hg : w.grownBy w' row) (hr : ∀ r, row = some r → ∃ o : Obj, w.heap[r]? = some o ∧ o.isCells = false) : Mine B v L w' := by
  refine ⟨h.row.kept hg ?_, fun q hq => let ⟨h1, h2, h3, h4⟩ := h.each q hq; ⟨h1.ownT hg hr, h2.ownT hg hr, h3.ownT hg hr, h4⟩⟩
  rcases h.row.2 with ⟨e, _⟩ | ⟨g, cap, cur, e, _, hgg, _⟩
  · exact .inl (by rw [e]; rfl)
  · refine .inr (fun e2 => ?_)
    rw [e] at e2
    simp only [Value.ownBlock] at e2
    obtain ⟨o, ho, hf⟩ := hr g e2.symm
    rw [hgg] at ho
    cases ho
    cases hf
theorem RedR.ownT {q : RQ} {row : Option Nat} (h : RedR B q w) (hg : w.grownBy w' row) (hr : ∀ r, row = some r → ∃ o : Obj, w.heap[r]? = some o ∧ o.isCells = false) : RedR B q w' :=
  ⟨h.1, h.2.1.ownT hg hr, h.2.2.1.ownT hg hr, h.2.2.2.1.ownT hg hr, h.2.2.2.2⟩
theorem RedR.below {q : RQ} (h : RedR B q w) (hb : Below w.heap.size w w') : RedR B q w' :=
  ⟨h.1, h.2.1.below hb, h.2.2.1.below hb, h.2.2.2.1.below hb, h.2.2.2.2⟩
end
def RdI (rb B N : Nat) (w : World) (pre : List RQ) (W : World) : Prop :=
  ∃ a n c, Blk W rb [.slice a n c] 30 ∧ Mine B (.slice a n c) pre W ∧ Below N w W ∧ B ≤ W.heap.size
theorem RdI.own {rb B N Z : Nat} {w : World} (hN : N ≤ w.heap.size) (hZ : N ≤ Z) : OwnFrom Z (RdI rb B N w) := fun pre X Y row h hg hr => by
  obtain ⟨a, n, c, h1, h2, h3, h4⟩ := h
  have hr' := fun r e => (hr r e).2
  exact ⟨a, n, c, h1.ownT hg hr', h2.ownT hg hr', (ownFrom_below (β := Unit) hN hZ) () X Y row h3 hg hr, Nat.le_trans h4 hg.size⟩
end Go.Proofs.YteblddnoegbalaaGreat
