/- My texts Nrm2, merged. -/
import Derived.Test.YteblddnoegbalaaGreatM09
import Derived.Test.YteblddnoegbalaaGreatM08
import Derived.Test.YteblddnoegbalaaGreatM05
import Derived.Test.YteblddnoegbalaaGreatM04
import Derived.Test.YteblddnoegbalaaGreatM00
import Derived.Test.YteblddnoegbalaaGreatProg
import Derived.WalkKit
import Derived.Lib.Hide
import Derived.Deep.QuietTactic
import Derived.BigQuiet
import Derived.Test.YteblddnoegbalaaGreatM03
import Derived.WalkSpells
import Derived.Lib.SliceRun
import Derived.MapKept
import Derived.Maps.OwnSet
import Derived.Maps.OwnOps
import Derived.Test.YteblddnoegbalaaGreatM02
import Derived.Test.YteblddnoegbalaaGreatM01
import Derived.Deep.AppendLies
import Derived.Lib.Bytealg
import Derived.Deep.DeepCutAuto
import Derived.RangeFuncNested
import Derived.RangeFuncBound
import Derived.RangeFuncCalls
import Derived.RangeFuncLeaves
import Derived.OwnWalkIn
import Derived.TacticsInMore
import Derived.LoopNIn
import Derived.LoopIn
import Derived.Stop.RegionWithIn
import Derived.Shelf.Abstract
import Derived.Maps.RangeWalk
import Derived.Test.YteblddnoegbalaaGreatM07
import Derived.Test.YteblddnoegbalaaGreatM06
import Derived.Lib.SlicesCompact
import Derived.Shelf.Sort.Plain
import Derived.Shelf.Slices.CompactI
import Derived.Shelf.Slices.In.SortNone
import Derived.Shelf.Strconv.Itoa3
import Derived.Shelf.Strings.BuilderK
import Derived.Shelf.Slices.SearchI
import Derived.Shelf.Slices.Empties
import Derived.Sort.OwnSortedInts
import Derived.Sort.QuietThIn
import Derived.RangeFuncBox
import Derived.Maps.OwnIn
import Derived.Lib.RowBridge

namespace Go.Proofs.YteblddnoegbalaaGreat
open Go.RowKit
set_option maxHeartbeats 4000000 in
set_option maxRecDepth 100000 in
theorem norm_any (v1 v2 : Value) (L K : List Int) (B : Int) (w : World) (h1 : Ints w v1 L) (h2 : Ints w v2 K) (hB : InI B) :
    Calls Tryz.prog 44 #[v1, v2, .int .i64 B] w fun e w' => ∃ vp, e = .returned (.tuple #[vp, .int .i64 (normP L K B).2]) ∧ PBQ w.heap.size w' vp (normP L K B).1 ∧ Below w.heap.size w w' := by
  obtain ⟨i0, hi, hz0, hz1', hz2⟩ := info_parts infoI
  obtain ⟨a1, c1, rfl, -, hl1, -, hcell1⟩ := h1.form
  obtain ⟨a2, c2, rfl, -, hl2, -, hcell2⟩ := h2.form
  have HI1 := Lib.hid h1
  have HI2 := Lib.hid h2
  unfold InI at hB
  clear h1 h2
  have hal0 := bal (Below.refl w.heap.size w) (.cells #[.slice none 0 0, .slice none 0 0, .int .i64 0] 25)
  have HAL := Lib.hid hal0
  have hB0 := Blk.new w pbZ 25
  clear hal0
  have HERR : Hid ((L.length ≠ K.length ∨ 65536 < L.length ∨ B < -1099511627776 ∨ 1099511627776 < B) → normP L K B = (⟨[], [], 0⟩, 2)) := Lib.hid (fun h => by unfold normP; rw [if_pos h])
  by_cases hlen : L.length = K.length
  · have e1 : ((L.length : Int) != (K.length : Int)) = false := by simp [hlen]
    have hlen2 : L.length ≤ K.length ∧ K.length ≤ L.length := by omega
    clear hlen
    by_cases hbig : 65536 < L.length
    · have HF := Lib.hid (HERR.out (.inr (.inl hbig)))
      have kx := hB0.cell
      go_enter Tryz.func44, Tryz.ntmps44
      go_wp2
      refine bodyPost_ret (v := .tuple #[.agg #[.slice none 0 0, .slice none 0 0, .int .i64 0], .int .i64 2]) (by simp [results, Tryz.f44, go_sem, *]) rfl ⟨_, by rw [HF.out], by rw [HF.out]; exact ⟨_, _, rfl, QRow.nil _ _, QRow.nil _ _, show InI (0 : Int) from (by unfold InI; omega), Nat.zero_le _, Nat.zero_le _⟩, HAL.out⟩
    · by_cases hb1 : B < -1099511627776
      · have HF := Lib.hid (HERR.out (.inr (.inr (.inl hb1))))
        have kx := hB0.cell
        go_enter Tryz.func44, Tryz.ntmps44
        go_wp2
        refine bodyPost_ret (v := .tuple #[.agg #[.slice none 0 0, .slice none 0 0, .int .i64 0], .int .i64 2]) (by simp [results, Tryz.f44, go_sem, *]) rfl ⟨_, by rw [HF.out], by rw [HF.out]; exact ⟨_, _, rfl, QRow.nil _ _, QRow.nil _ _, show InI (0 : Int) from (by unfold InI; omega), Nat.zero_le _, Nat.zero_le _⟩, HAL.out⟩
      · by_cases hb2 : 1099511627776 < B
        · have HF := Lib.hid (HERR.out (.inr (.inr (.inr hb2))))
          have kx := hB0.cell
          go_enter Tryz.func44, Tryz.ntmps44
          go_wp2
          refine bodyPost_ret (v := .tuple #[.agg #[.slice none 0 0, .slice none 0 0, .int .i64 0], .int .i64 2]) (by simp [results, Tryz.f44, go_sem, *]) rfl ⟨_, by rw [HF.out], by rw [HF.out]; exact ⟨_, _, rfl, QRow.nil _ _, QRow.nil _ _, show InI (0 : Int) from (by unfold InI; omega), Nat.zero_le _, Nat.zero_le _⟩, HAL.out⟩
        · have hno : ¬ (L.length ≠ K.length ∨ 65536 < L.length ∨ B < -1099511627776 ∨ 1099511627776 < B) := by omega
          have HNO := Lib.hid hno
          have hmm := @run_makeMap Tryz.prog
          have HST : Hid (N1St L K w 0 ((w.alloc (.cells #[.slice none 0 0, .slice none 0 0, .int .i64 0] 25)).alloc (.map #[] 0))) := Lib.hid ⟨by rw [mapK_zero]; exact MapIs.made2 _ _ (by simp), bal HAL.out _, hB0.alloc _, fun j hj => absurd hj (Nat.not_lt_zero _)⟩
          clear hno
          go_enter Tryz.func44, Tryz.ntmps44
          go_upto_region 5 with fail
          clear hmm
          go_loopw [2, 42] (fun b i wx => N1Rel L K B w b i wx) (fun b i _ => L.length - (intOf i).toNat)
          case atStart => exact ⟨0, Nat.zero_le _, rfl, by simp [negTo], HST.out⟩
          case round =>
            obtain ⟨k, hk, rfl, rfl, hst⟩ := hrel
            have HSK := Lib.hid hst
            have kx := hst.box.cell
            have kf := hst.box.free
            have hbl := hst.below
            have HBL := Lib.hid hbl
            have HNS := neg_small (by omega) hst.ok
            have HBY : Hid (∀ v, -1099511627776 ≤ byTo L K v k ∧ byTo L K v k ≤ 1099511627776) := Lib.hid (fun v => by_small (by omega) hst.ok)
            have hmap := hst.map
            clear hst
            by_cases hlt : k < L.length
            · obtain ⟨b1, o1, rfl, hb1', hc1⟩ := hcell1 (by omega)
              obtain ⟨b2, o2, rfl, hb2', hc2⟩ := hcell2 (by omega)
              have hlt2 : k < K.length := by omega
              have hk1 := (bcell hbl _ _ hb1').trans (hc1 k hlt)
              have hk2 := (bcell hbl _ _ hb2').trans (hc2 k hlt2)
              have hx1 := HI1.out.2 k
              have hx2 := HI2.out.2 k
              have HPD : Hid (pokAt L K k = (plitB (ix L k) && decide (-16777216 ≤ ix K k ∧ ix K k ≤ 16777216))) := Lib.hid rfl
              clear hc1 hc2 hcell1 hcell2 hbl
              cases hp : plitB (ix L k) with
              | false =>
                have HLB := Lib.hid hp
                have HF := Lib.hid (pok_fail HNO.out hlt (by rw [HPD.out, hp]; rfl))
                clear hp hmap
                go_wp2_with (go_at_call 57; (with_reducible refine (pliteral_lit _ false HLB.out _).mono ?_); rintro e w1 ⟨rfl, rfl⟩)
                refine bodyPost_ret (v := .tuple #[.agg #[.slice none 0 0, .slice none 0 0, .int .i64 0], .int .i64 2]) (by simp [results, Tryz.f44, go_sem, *]) rfl ⟨_, by rw [HF.out], by rw [HF.out]; exact ⟨_, _, rfl, QRow.nil _ _, QRow.nil _ _, show InI (0 : Int) from (by unfold InI; omega), Nat.zero_le _, Nat.zero_le _⟩, below3 HBL.out _ (Nat.le_refl _) _ _ _⟩
              | true =>
                have HLB := Lib.hid hp
                have hpl : ix L k ≠ 0 ∧ -65536 ≤ ix L k ∧ ix L k ≤ 65536 := by unfold plitB at hp; simpa using hp
                by_cases g1 : ix K k < -16777216
                · have HF := Lib.hid (pok_fail HNO.out hlt (by rw [HPD.out, decide_eq_false (by omega)]; simp))
                  clear hp hmap
                  go_wp2_with (go_at_call 57; (with_reducible refine (pliteral_lit _ true HLB.out _).mono ?_); rintro e w1 ⟨rfl, rfl⟩)
                  refine bodyPost_ret (v := .tuple #[.agg #[.slice none 0 0, .slice none 0 0, .int .i64 0], .int .i64 2]) (by simp [results, Tryz.f44, go_sem, *]) rfl ⟨_, by rw [HF.out], by rw [HF.out]; exact ⟨_, _, rfl, QRow.nil _ _, QRow.nil _ _, show InI (0 : Int) from (by unfold InI; omega), Nat.zero_le _, Nat.zero_le _⟩, below3 HBL.out _ (Nat.le_refl _) _ _ _⟩
                · by_cases g2 : 16777216 < ix K k
                  · have HF := Lib.hid (pok_fail HNO.out hlt (by rw [HPD.out, decide_eq_false (by omega)]; simp))
                    clear hp hmap
                    go_wp2_with (go_at_call 57; (with_reducible refine (pliteral_lit _ true HLB.out _).mono ?_); rintro e w1 ⟨rfl, rfl⟩)
                    refine bodyPost_ret (v := .tuple #[.agg #[.slice none 0 0, .slice none 0 0, .int .i64 0], .int .i64 2]) (by simp [results, Tryz.f44, go_sem, *]) rfl ⟨_, by rw [HF.out], by rw [HF.out]; exact ⟨_, _, rfl, QRow.nil _ _, QRow.nil _ _, show InI (0 : Int) from (by unfold InI; omega), Nat.zero_le _, Nat.zero_le _⟩, below3 HBL.out _ (Nat.le_refl _) _ _ _⟩
                  · have HPK : Hid (pokAt L K k = true) := Lib.hid (by rw [HPD.out, hp, decide_eq_true (by omega)]; rfl)
                    have HMAP := Lib.hid hmap
                    have HNE := Lib.hid (negTo_at (L := L) (K := K) (i := k))
                    by_cases g3 : ix L k < 0
                    · have hlk := mapK_lookE hmap hk (x := -(ix L k)) (by omega)
                      have hby := HBY.out (-(ix L k))
                      have HYS : Hid (byTo L K (-(ix L k)) k - ix K k = byTo L K (-(ix L k)) (k + 1)) := Lib.hid (by rw [byTo_at hpl.1 (by omega), if_pos g3])
                      have HAB : Hid (((ix L k).natAbs : Int) = -(ix L k)) := Lib.hid (by omega)
                      rw [if_pos g3] at HNE
                      clear hp hmap kx kf
                      go_wp2_with (first | (go_at_call 57; (with_reducible refine (pliteral_lit _ true HLB.out _).mono ?_); rintro e w1 ⟨rfl, rfl⟩) | (at_mapUpdate; refine wpList_mput _ _ (-(ix L k)) (.int .i64 (byTo L K (-(ix L k)) k - ix K k)) kvInt 129 3 3 Tryz.underlying129 Tryz.underlying3 rfl _ _ _ rfl rfl rfl rfl HMAP.out ?_; intro w7 hm7 hg7 hs7; have HS7 := Lib.hid (HSK.out.put hlt HPK.out HAB.out HYS.out hm7 hg7); clear hm7 hg7 hs7))
                      first
                        | (go_roundw
                           case rel => (exact ⟨k + 1, hlt, by go_num, by rw [HNE.out]; go_num, HS7.out⟩)
                           case measure => (simp [intOf]; omega))
                        | (refine ⟨?_, ?_⟩
                           · (exact ⟨k + 1, hlt, by go_num, by rw [HNE.out]; go_num, HS7.out⟩)
                           · (simp [intOf]; omega))
                    · have hlk := mapK_lookE hmap hk (x := ix L k) (by omega)
                      have hby := HBY.out (ix L k)
                      have HYS : Hid (byTo L K (ix L k) k + ix K k = byTo L K (ix L k) (k + 1)) := Lib.hid (by rw [byTo_at hpl.1 (by omega), if_neg g3])
                      have HAB : Hid (((ix L k).natAbs : Int) = ix L k) := Lib.hid (by omega)
                      rw [if_neg g3] at HNE
                      clear hp hmap kx kf
                      go_wp2_with (first | (go_at_call 57; (with_reducible refine (pliteral_lit _ true HLB.out _).mono ?_); rintro e w1 ⟨rfl, rfl⟩) | (at_mapUpdate; refine wpList_mput _ _ (ix L k) (.int .i64 (byTo L K (ix L k) k + ix K k)) kvInt 129 3 3 Tryz.underlying129 Tryz.underlying3 rfl _ _ _ rfl rfl rfl rfl HMAP.out ?_; intro w7 hm7 hg7 hs7; have HS7 := Lib.hid (HSK.out.put hlt HPK.out HAB.out HYS.out hm7 hg7); clear hm7 hg7 hs7))
                      first
                        | (go_roundw
                           case rel => (exact ⟨k + 1, hlt, by go_num, by rw [HNE.out], HS7.out⟩)
                           case measure => (simp [intOf]; omega))
                        | (refine ⟨?_, ?_⟩
                           · (exact ⟨k + 1, hlt, by go_num, by rw [HNE.out], HS7.out⟩)
                           · (simp [intOf]; omega))
            · obtain rfl : k = L.length := by omega
              have hlt1 := hmap.lt
              have HBOX := Lib.hid HSK.out.box
              have HPOK : Hid (∀ j, j < L.length → pokAt L K j = true) := Lib.hid HSK.out.ok
              have HMAP := Lib.hid hmap
              have HBY2 := Lib.hid (fun v => HBY.out v)
              clear hmap hbl hcell1 hcell2 kx kf hB0 HST HAL HERR HI1 HI2
              go_upto_region 17 with (at_range; refine wpList_mrange (mapK L K L.length) (w.heap.size + 1) 129 3 3 Tryz.underlying129 rfl _ rfl rfl HMAP.out ?_; intro w8 cnt hr8 hg8 hs8)
              have HN2 : Hid (N2W L K w wr.heap.size (fun v => (mapK L K L.length v).isSome) cnt (.slice none 0 0) (flK L K []) w8) := Lib.hid ⟨hr8, World.ownsRow_nil _ _ _ _, HBL.out.grown hg8 HBL.out.size (fun k e => by cases e), HBOX.out.same (hg8.block _ HBOX.out.lt (by simp)), by omega⟩
              clear hr8 hg8 hs8
              simp only [Act.put, List.setIfInBounds_toArray, List.set_cons_succ, List.set_cons_zero]
              clear HSK HBY
              have HBY := Lib.hid (fun v => HBY2.out v)
              have hR0 : Hid (w.heap.size + 1 < wr.heap.size) := Lib.hid hlt1
              generalize wr = wq at *
              clear HBY2 HBOX HMAP hk hlt hlt1
              go_loopw [2, 12] (fun b v12 wx => N2Rel L K B w wq.heap.size b v12 wx) (fun _ _ wx => wx.rangeLeft (w.heap.size + 1) wq.heap.size)
              case atStart => exact ⟨_, cnt, [], Met.start L K, by simp [lowS, sumI], HN2.out⟩
              case round =>
                obtain ⟨left, cnt2, ks, hmet, rfl, hst⟩ := hrel
                have HMT := Lib.hid hmet
                have HS2 := Lib.hid hst
                have hle := hst.rng.left_eq
                have HLS := lowS_small HBY.out ks
                have hkl := hmet.len
                obtain ⟨av, nv, cv, rfl⟩ := hst.form
                clear hmet hst
                by_cases hc : cnt2 = 0
                · subst hc
                  go_upto_region 23 with (at_next; refine wpList_mnext0 (mapK L K L.length) (w.heap.size + 1) wq.heap.size left kvI_inj rfl _ rfl rfl HS2.out.rng ?_; intro hz; have HPM := Lib.hid (HMT.out.perm hz); clear hz)
                  have hnp : normP L K B = normC (fun v => byTo L K v L.length) ((keysOf L).filter fun v => byTo L K v L.length != 0) (B - negTo L K L.length - lowS L K ks) := by rw [pok_all HNO.out HPOK.out, ← sumI_perm HPM.out]; rfl
                  have HNP := Lib.hid hnp
                  have hbds : -100000000000000000 ≤ B - negTo L K L.length - lowS L K ks ∧ B - negTo L K L.length - lowS L K ks ≤ 100000000000000000 := by omega
                  have HBX := Lib.hid HS2.out.box
                  have kx := HBX.out.cell
                  have kf := HBX.out.free
                  clear hnp HLS HNS
                  generalize B - negTo L K L.length - lowS L K ks = bd at *
                  by_cases hb0 : bd ≤ 0
                  · have HF : Hid (normP L K B = (⟨[], [], 0⟩, 0)) := Lib.hid (by rw [HNP.out]; unfold normC; rw [if_pos hb0])
                    go_wp2
                    refine bodyPost_ret (v := .tuple #[.agg #[.slice none 0 0, .slice none 0 0, .int .i64 0], .int .i64 0]) (by simp [results, Tryz.f44, go_sem, *]) rfl ⟨_, by rw [HF.out], by rw [HF.out]; exact ⟨_, _, rfl, QRow.nil _ _, QRow.nil _ _, show InI (0 : Int) from (by unfold InI; omega), Nat.zero_le _, Nat.zero_le _⟩, below3 HS2.out.below _ (Nat.le_refl _) _ _ _⟩
                  · have hflm : ∀ x ∈ flK L K ks, 0 < x ∧ x ≤ 65536 := fun x hx => by
                      have h1 := (HPM.out.mem_iff).1 (List.mem_filter.1 hx).1
                      obtain ⟨j, hj, e⟩ := (mem_takeK (Nat.le_refl _)).1 (by rw [List.take_length]; exact h1)
                      have := (pok_at (HPOK.out j hj))
                      omega
                    have hown : OwnI (wq.heap.size + 1) wr (.slice av nv cv) (flK L K ks) := own_of_row HS2.out.row (by have : (flK L K ks).length ≤ ks.length := List.length_filter_le _ _; omega) (fitI fun x hx => by have := hflm x hx; unfold InI; omega)
                    have HOW := Lib.hid hown
                    have hV : srt (flK L K ks) = (keysOf L).filter fun v => byTo L K v L.length != 0 := sortI_nodup (HMT.out.nodup.filter _) ((keys_sorted L).filter _) fun x => by
                      unfold flK
                      rw [List.mem_filter, List.mem_filter, HPM.out.mem_iff]
                    have hVm : ∀ x ∈ (keysOf L).filter (fun v => byTo L K v L.length != 0), 0 < x ∧ x ≤ 65536 := fun x hx => hflm x (by rw [← hV] at hx; exact (sortI_mem _ _).1 hx)
                    have hVn : ((keysOf L).filter (fun v => byTo L K v L.length != 0)).length ≤ 65536 := by have h1 := keys_len L; have h2 := List.length_filter_le (fun v => byTo L K v L.length != 0) (keysOf L); omega
                    generalize (keysOf L).filter (fun v => byTo L K v L.length != 0) = V at *
                    have HVM := Lib.hid hVm
                    have HVV := Lib.hid hV
                    clear hflm hown hVm hV kx kf
                    go_upto_region 29 with (go_at_call 81; (with_reducible refine (sortI_own HOW.out).mono ?_); rintro e w2 ⟨rfl, ho2, hg2⟩; rw [HVV.out] at ho2; have HO2 := Lib.hid ho2; have HG2 := Lib.hid hg2; clear ho2 hg2)
                    obtain rfl : nv = V.length := by
                      obtain ⟨_, _, e⟩ := HO2.out.1.form
                      simp only [Value.slice.injEq] at e
                      exact e.2.1
                    have HM2 := Lib.hid (HS2.out.sorted HG2.out)
                    have hzz := HM2.out.2.2.2
                    clear HS2 HG2 HOW HBX hle HPM HN2 HBL hR0
                    have HI2 := Lib.hid HO2.out.ints
                    have hcV := HI2.out.form
                    obtain ⟨_, _, eV, -, -, -, hcellV⟩ := hcV
                    simp only [Value.slice.injEq] at eV
                    obtain ⟨rfl, -, -⟩ := eV
                    have HCV := Lib.hid hcellV
                    have HN3 := Lib.hid (N3St.start L K V w w2 bd)
                    clear hcellV
                    go_loopw [16, 107] (fun s i wx => N3Rel L K V w w2 bd s i wx) (fun _ i _ => V.length - (intOf i).toNat)
                    case atStart => exact ⟨0, _, _, Nat.zero_le _, rfl, by simp [sumN, sumI], HN3.out⟩
                    case round =>
                      obtain ⟨k, vl, vk, hk, rfl, rfl, hst⟩ := hrel
                      have HS3 := Lib.hid hst
                      have hup := hst.up
                      have hsn := sumN_small (by omega) HBY.out k hk
                      have ko := hst.out.cell
                      have hbx := HM2.out.2.2.1.same (hup.block _ (by omega))
                      have hbw := HM2.out.2.1.trans (hup.mono (by omega))
                      clear hst
                      by_cases hlt : k < V.length
                      · obtain ⟨b3, o3, rfl, hb3, hc3⟩ := HCV.out (by omega)
                        have hk3 := (bcell hup _ _ hb3).trans (hc3 k hlt)
                        have hxp := HVM.out _ (ix_mem hlt)
                        have hlk := mapK_lookE (HM2.out.1.same (hup.block _ (by omega))) (Nat.le_refl _) hxp.1
                        have hy := HBY.out (ix V k)
                        have HSS := Lib.hid (sumN_succ (L := L) (K := K) (bd := bd) hlt)
                        clear hc3
                        by_cases g1 : byTo L K (ix V k) L.length < 0
                        · go_upto_region 36 with fail
                          have HXI : Hid (InI (-(ix V k))) := Lib.hid (by unfold InI; omega)
                          have HYI : Hid (InI (min (-(byTo L K (ix V k) L.length)) bd)) := Lib.hid (by unfold InI; omega)
                          have HEX : Hid (litOf (fun v => byTo L K v L.length) (ix V k) = -(ix V k)) := Lib.hid (by unfold litOf; rw [if_pos g1])
                          have HEY : Hid (minI (absI (byTo L K (ix V k) L.length)) bd = min (-(byTo L K (ix V k) L.length)) bd) := Lib.hid (by unfold minI absI; rw [if_pos g1, Int.min_def])
                          refine wp_region_inv (TW wr w2.heap.size vl vk (.int .i64 bd) (litsTo L K V k) (coefTo L K V bd k) (-(ix V k)) (min (-(byTo L K (ix V k) L.length)) bd)) (by kernel_rfl) (by kernel_rfl) (by kernel_rfl) (TW.start HS3.out.out HS3.out.rl HS3.out.rk HS3.out.far) ?step ?fin
                          case step =>
                            intro i hi14 vals Lf wx hL hdep hcl hW
                            have h14 : i < 14 := hi14
                            have HW := Lib.hid hW
                            rcases (by omega : i = 0 ∨ i = 1 ∨ i = 2 ∨ i = 3 ∨ i = 4 ∨ i = 5 ∨ i = 6 ∨ i = 7 ∨ i = 8 ∨ i = 9 ∨ i = 10 ∨ i = 11 ∨ i = 12 ∨ i = 13) with rfl | rfl | rfl | rfl | rfl | rfl | rfl | rfl | rfl | rfl | rfl | rfl | rfl | rfl
                            · refine StepJ.of rfl (fun K' hK => ?_)
                              simp only [opAt, List.getD_cons_zero, Afr, fr, Act.put, List.setIfInBounds_toArray, List.set_cons_succ, List.set_cons_zero] at hK ⊢
                              go_simp
                              exact hK _ _ (HW.out.quiet 0 (by omega))
                            · have hn : Lf 11 = false := by
                                cases e : Lf 11 with
                                | false => rfl
                                | true => rw [hcl 11 (by decide) e 1 (by decide) (by kernel_rfl)] at hL; cases hL
                              have hc := HW.out.out.cell 0
                              simp only [hn, Bool.false_eq_true, if_false, List.getElem?_cons_zero] at hc
                              have v0 := HW.out.t0 (hdep 0 (by decide) (by kernel_rfl))
                              refine StepJ.of rfl (fun K' hK => ?_)
                              simp only [v0, opAt, List.getD_cons_zero, List.getD_cons_succ, Afr, fr, dstOf, if_true, List.getElem?_toArray, List.getElem?_cons_zero, Option.bind_some, Act.put, List.setIfInBounds_toArray, List.set_cons_succ, List.set_cons_zero] at hK ⊢
                              go_simp
                              exact hK _ _ (HW.out.quiet 1 (by omega))
                            · refine StepJ.of rfl (fun K' hK => ?_)
                              simp only [opAt, List.getD_cons_zero, List.getD_cons_succ, Afr, fr, dstOf, if_true, List.getElem?_toArray, List.getElem?_cons_zero, List.getElem?_cons_succ, Option.bind_some, Act.put, List.setIfInBounds_toArray, List.set_cons_succ, List.set_cons_zero] at hK ⊢
                              go_simp
                              exact hK _ _ (HW.out.quiet 2 (by omega))
                            · have v2 := HW.out.t2 (hdep 2 (by decide) (by kernel_rfl))
                              refine StepJ.of rfl (fun K' hK => ?_)
                              simp only [v2, opAt, List.getD_cons_zero, List.getD_cons_succ, Afr, fr, dstOf, if_true, List.getElem?_toArray, List.getElem?_cons_zero, List.getElem?_cons_succ, Option.bind_some, Act.put, List.setIfInBounds_toArray, List.set_cons_succ, List.set_cons_zero] at hK ⊢
                              go_simp
                              exact hK _ _ HW.out.build3
                            · have h9 : Lf 9 = false := by
                                cases e : Lf 9 with
                                | false => rfl
                                | true => rw [hcl 9 (by decide) e 4 (by decide) (by kernel_rfl)] at hL; cases hL
                              have h11 : Lf 11 = false := by
                                cases e : Lf 11 with
                                | false => rfl
                                | true => rw [hcl 11 (by decide) e 4 (by decide) (by kernel_rfl)] at hL; cases hL
                              have v1 := HW.out.t1 (hdep 1 (by decide) (by kernel_rfl))
                              obtain ⟨b8, v3, hb8⟩ := HW.out.t3 (hdep 3 (by decide) (by kernel_rfl)) hL
                              have hq := HW.out.r1
                              simp only [hL, Bool.false_eq_true, if_false] at hq
                              have hll : (litsTo L K V k).length ≤ 65536 := by simp [litsTo]; omega
                              have hob := HW.out.out.lt
                              refine StepJ.of rfl (fun K' hK => ?_)
                              simp only [v1, v3, opAt, List.getD_cons_zero, List.getD_cons_succ, Afr, fr, dstOf, if_true, List.getElem?_toArray, List.getElem?_cons_zero, List.getElem?_cons_succ, Option.bind_some, Act.put, List.setIfInBounds_toArray, List.set_cons_succ, List.set_cons_zero] at hK ⊢
                              refine wp_appendQ (.tmp 127) (.tmp 129) 23 Tryz.underlying23 rfl (w2.heap.size + 1) vl (litsTo L K V k) _ rfl hq b8 1 rfl hb8 HXI.out (by omega) (by omega) ?_
                              intro v' w' hq' hg' ho'
                              exact hK _ _ (HW.out.app4 hL h9 h11 hq' hg' ho')
                            · refine StepJ.of rfl (fun K' hK => ?_)
                              simp only [opAt, List.getD_cons_zero, List.getD_cons_succ, Afr, fr, dstOf, if_true, List.getElem?_toArray, List.getElem?_cons_zero, List.getElem?_cons_succ, Option.bind_some, Act.put, List.setIfInBounds_toArray, List.set_cons_succ, List.set_cons_zero] at hK ⊢
                              go_simp
                              exact hK _ _ (HW.out.quiet 5 (by omega))
                            · have hn : Lf 13 = false := by
                                cases e : Lf 13 with
                                | false => rfl
                                | true => rw [hcl 13 (by decide) e 6 (by decide) (by kernel_rfl)] at hL; cases hL
                              have hc := HW.out.out.cell 1
                              simp only [hn, Bool.false_eq_true, if_false, List.getElem?_cons_zero, List.getElem?_cons_succ] at hc
                              have v5 := HW.out.t5 (hdep 5 (by decide) (by kernel_rfl))
                              refine StepJ.of rfl (fun K' hK => ?_)
                              simp only [v5, opAt, List.getD_cons_zero, List.getD_cons_succ, Afr, fr, dstOf, if_true, List.getElem?_toArray, List.getElem?_cons_zero, List.getElem?_cons_succ, Option.bind_some, Act.put, List.setIfInBounds_toArray, List.set_cons_succ, List.set_cons_zero] at hK ⊢
                              go_simp
                              exact hK _ _ (HW.out.quiet 6 (by omega))
                            · refine StepJ.of rfl (fun K' hK => ?_)
                              simp only [opAt, List.getD_cons_zero, List.getD_cons_succ, Afr, fr, dstOf, if_true, List.getElem?_toArray, List.getElem?_cons_zero, List.getElem?_cons_succ, Option.bind_some, Act.put, List.setIfInBounds_toArray, List.set_cons_succ, List.set_cons_zero] at hK ⊢
                              go_simp
                              exact hK _ _ (HW.out.quiet 7 (by omega))
                            · have v7 := HW.out.t7 (hdep 7 (by decide) (by kernel_rfl))
                              refine StepJ.of rfl (fun K' hK => ?_)
                              simp only [v7, opAt, List.getD_cons_zero, List.getD_cons_succ, Afr, fr, dstOf, if_true, List.getElem?_toArray, List.getElem?_cons_zero, List.getElem?_cons_succ, Option.bind_some, Act.put, List.setIfInBounds_toArray, List.set_cons_succ, List.set_cons_zero] at hK ⊢
                              go_simp
                              exact hK _ _ (HW.out.build8 (fun g e => by have h1 := (HS3.out.rl.base e).2; have h2 := HW.out.below.size; omega))
                            · have h13 : Lf 13 = false := by
                                cases e : Lf 13 with
                                | false => rfl
                                | true => rw [hcl 13 (by decide) e 9 (by decide) (by kernel_rfl)] at hL; cases hL
                              have h4 := hdep 4 (by decide) (by kernel_rfl)
                              have v6 := HW.out.t6 (hdep 6 (by decide) (by kernel_rfl))
                              obtain ⟨b8, v8, hb8, -⟩ := HW.out.t8 (hdep 8 (by decide) (by kernel_rfl)) hL
                              have hq := HW.out.r2
                              simp only [hL, Bool.false_eq_true, if_false] at hq
                              have hll : (coefTo L K V bd k).length ≤ 65536 := by simp [coefTo]; omega
                              have hob := HW.out.out.lt
                              refine StepJ.of rfl (fun K' hK => ?_)
                              simp only [v6, v8, opAt, List.getD_cons_zero, List.getD_cons_succ, Afr, fr, dstOf, if_true, List.getElem?_toArray, List.getElem?_cons_zero, List.getElem?_cons_succ, Option.bind_some, Act.put, List.setIfInBounds_toArray, List.set_cons_succ, List.set_cons_zero] at hK ⊢
                              refine wp_appendQ (.tmp 132) (.tmp 134) 23 Tryz.underlying23 rfl (w2.heap.size + 1) vk (coefTo L K V bd k) _ rfl hq b8 1 rfl hb8 HYI.out (by omega) (by omega) ?_
                              intro v' w' hq' hg' ho'
                              exact hK _ _ (HW.out.app9 h4 hL h13 hq' hg' ho')
                            · refine StepJ.of rfl (fun K' hK => ?_)
                              simp only [opAt, List.getD_cons_zero, List.getD_cons_succ, Afr, fr, dstOf, if_true, List.getElem?_toArray, List.getElem?_cons_zero, List.getElem?_cons_succ, Option.bind_some, Act.put, List.setIfInBounds_toArray, List.set_cons_succ, List.set_cons_zero] at hK ⊢
                              go_simp
                              exact hK _ _ (HW.out.quiet 10 (by omega))
                            · have h4 := hdep 4 (by decide) (by kernel_rfl)
                              have h9 := hdep 9 (by decide) (by kernel_rfl)
                              have v10 := HW.out.t10 (hdep 10 (by decide) (by kernel_rfl))
                              have hq := HW.out.r1
                              simp only [h4, if_true] at hq
                              obtain ⟨a8, n8, c8, e8⟩ := hq.form
                              have hc := HW.out.out.cell 0
                              have hfz := HW.out.out.free 0
                              have hst := HW.out.store 11 h4 h9 (by omega) undef
                              simp only [if_true, e8] at hst
                              refine StepJ.of rfl (fun K' hK => ?_)
                              simp only [v10, e8, opAt, List.getD_cons_zero, List.getD_cons_succ, Afr, fr, dstOf, if_true, List.getElem?_toArray, List.getElem?_cons_zero, List.getElem?_cons_succ, Option.bind_some, Act.put, List.setIfInBounds_toArray, List.set_cons_succ, List.set_cons_zero] at hK ⊢
                              go_simp
                              exact hK _ _ hst
                            · refine StepJ.of rfl (fun K' hK => ?_)
                              simp only [opAt, List.getD_cons_zero, List.getD_cons_succ, Afr, fr, dstOf, if_true, List.getElem?_toArray, List.getElem?_cons_zero, List.getElem?_cons_succ, Option.bind_some, Act.put, List.setIfInBounds_toArray, List.set_cons_succ, List.set_cons_zero] at hK ⊢
                              go_simp
                              exact hK _ _ (HW.out.quiet 12 (by omega))
                            · have h4 := hdep 4 (by decide) (by kernel_rfl)
                              have h9 := hdep 9 (by decide) (by kernel_rfl)
                              have v12 := HW.out.t12 (hdep 12 (by decide) (by kernel_rfl))
                              have hq := HW.out.r2
                              simp only [h9, if_true] at hq
                              obtain ⟨a8, n8, c8, e8⟩ := hq.form
                              have hc := HW.out.out.cell 1
                              have hfz := HW.out.out.free 1
                              have hst := HW.out.store 13 h4 h9 (by omega) undef
                              simp only [Nat.reduceEqDiff, if_false, e8] at hst
                              refine StepJ.of rfl (fun K' hK => ?_)
                              simp only [v12, e8, opAt, List.getD_cons_zero, List.getD_cons_succ, Afr, fr, dstOf, if_true, List.getElem?_toArray, List.getElem?_cons_zero, List.getElem?_cons_succ, Option.bind_some, Act.put, List.setIfInBounds_toArray, List.set_cons_succ, List.set_cons_zero] at hK ⊢
                              go_simp
                              exact hK _ _ hst
                          case fin =>
                            intro vals Lf wx hall hW
                            obtain ⟨f1, f2, f3, f4, f5⟩ := hW.end hall
                            have HN4 := Lib.hid (HS3.out.step hlt f5 f1 (by rw [HEX.out]; exact f2) (by rw [HEY.out]; exact f3) f4)
                            clear f1 f2 f3 f4 f5 hW hall
                            simp only [Afr, List.length_cons, List.length_nil, Nat.reduceAdd, fr, dstOf, if_true, List.getElem?_toArray, List.getElem?_cons_zero, List.getElem?_cons_succ, Option.bind_some, Act.put, List.setIfInBounds_toArray, List.set_cons_succ, List.set_cons_zero]
                            go_wp2
                            first
                              | (go_roundw
                                 case rel => (exact ⟨k + 1, vals 4, vals 9, hlt, by go_num, by rw [HSS.out, HEY.out], HN4.out⟩)
                                 case measure => (simp [intOf]; omega))
                              | (refine ⟨?_, ?_⟩
                                 · (exact ⟨k + 1, vals 4, vals 9, hlt, by go_num, by rw [HSS.out, HEY.out], HN4.out⟩)
                                 · (simp [intOf]; omega))
                        · go_upto_region 36 with fail
                          have HXI : Hid (InI (ix V k)) := Lib.hid (by unfold InI; omega)
                          have HYI : Hid (InI (min (byTo L K (ix V k) L.length) bd)) := Lib.hid (by unfold InI; omega)
                          have HEX : Hid (litOf (fun v => byTo L K v L.length) (ix V k) = ix V k) := Lib.hid (by unfold litOf; rw [if_neg g1])
                          have HEY : Hid (minI (absI (byTo L K (ix V k) L.length)) bd = min (byTo L K (ix V k) L.length) bd) := Lib.hid (by unfold minI absI; rw [if_neg g1, Int.min_def])
                          refine wp_region_inv (TW wr w2.heap.size vl vk (.int .i64 bd) (litsTo L K V k) (coefTo L K V bd k) (ix V k) (min (byTo L K (ix V k) L.length) bd)) (by kernel_rfl) (by kernel_rfl) (by kernel_rfl) (TW.start HS3.out.out HS3.out.rl HS3.out.rk HS3.out.far) ?step ?fin
                          case step =>
                            intro i hi14 vals Lf wx hL hdep hcl hW
                            have h14 : i < 14 := hi14
                            have HW := Lib.hid hW
                            rcases (by omega : i = 0 ∨ i = 1 ∨ i = 2 ∨ i = 3 ∨ i = 4 ∨ i = 5 ∨ i = 6 ∨ i = 7 ∨ i = 8 ∨ i = 9 ∨ i = 10 ∨ i = 11 ∨ i = 12 ∨ i = 13) with rfl | rfl | rfl | rfl | rfl | rfl | rfl | rfl | rfl | rfl | rfl | rfl | rfl | rfl
                            · refine StepJ.of rfl (fun K' hK => ?_)
                              simp only [opAt, List.getD_cons_zero, Afr, fr, Act.put, List.setIfInBounds_toArray, List.set_cons_succ, List.set_cons_zero] at hK ⊢
                              go_simp
                              exact hK _ _ (HW.out.quiet 0 (by omega))
                            · have hn : Lf 11 = false := by
                                cases e : Lf 11 with
                                | false => rfl
                                | true => rw [hcl 11 (by decide) e 1 (by decide) (by kernel_rfl)] at hL; cases hL
                              have hc := HW.out.out.cell 0
                              simp only [hn, Bool.false_eq_true, if_false, List.getElem?_cons_zero] at hc
                              have v0 := HW.out.t0 (hdep 0 (by decide) (by kernel_rfl))
                              refine StepJ.of rfl (fun K' hK => ?_)
                              simp only [v0, opAt, List.getD_cons_zero, List.getD_cons_succ, Afr, fr, dstOf, if_true, List.getElem?_toArray, List.getElem?_cons_zero, Option.bind_some, Act.put, List.setIfInBounds_toArray, List.set_cons_succ, List.set_cons_zero] at hK ⊢
                              go_simp
                              exact hK _ _ (HW.out.quiet 1 (by omega))
                            · refine StepJ.of rfl (fun K' hK => ?_)
                              simp only [opAt, List.getD_cons_zero, List.getD_cons_succ, Afr, fr, dstOf, if_true, List.getElem?_toArray, List.getElem?_cons_zero, List.getElem?_cons_succ, Option.bind_some, Act.put, List.setIfInBounds_toArray, List.set_cons_succ, List.set_cons_zero] at hK ⊢
                              go_simp
                              exact hK _ _ (HW.out.quiet 2 (by omega))
                            · have v2 := HW.out.t2 (hdep 2 (by decide) (by kernel_rfl))
                              refine StepJ.of rfl (fun K' hK => ?_)
                              simp only [v2, opAt, List.getD_cons_zero, List.getD_cons_succ, Afr, fr, dstOf, if_true, List.getElem?_toArray, List.getElem?_cons_zero, List.getElem?_cons_succ, Option.bind_some, Act.put, List.setIfInBounds_toArray, List.set_cons_succ, List.set_cons_zero] at hK ⊢
                              go_simp
                              exact hK _ _ HW.out.build3
                            · have h9 : Lf 9 = false := by
                                cases e : Lf 9 with
                                | false => rfl
                                | true => rw [hcl 9 (by decide) e 4 (by decide) (by kernel_rfl)] at hL; cases hL
                              have h11 : Lf 11 = false := by
                                cases e : Lf 11 with
                                | false => rfl
                                | true => rw [hcl 11 (by decide) e 4 (by decide) (by kernel_rfl)] at hL; cases hL
                              have v1 := HW.out.t1 (hdep 1 (by decide) (by kernel_rfl))
                              obtain ⟨b8, v3, hb8⟩ := HW.out.t3 (hdep 3 (by decide) (by kernel_rfl)) hL
                              have hq := HW.out.r1
                              simp only [hL, Bool.false_eq_true, if_false] at hq
                              have hll : (litsTo L K V k).length ≤ 65536 := by simp [litsTo]; omega
                              have hob := HW.out.out.lt
                              refine StepJ.of rfl (fun K' hK => ?_)
                              simp only [v1, v3, opAt, List.getD_cons_zero, List.getD_cons_succ, Afr, fr, dstOf, if_true, List.getElem?_toArray, List.getElem?_cons_zero, List.getElem?_cons_succ, Option.bind_some, Act.put, List.setIfInBounds_toArray, List.set_cons_succ, List.set_cons_zero] at hK ⊢
                              refine wp_appendQ (.tmp 127) (.tmp 129) 23 Tryz.underlying23 rfl (w2.heap.size + 1) vl (litsTo L K V k) _ rfl hq b8 1 rfl hb8 HXI.out (by omega) (by omega) ?_
                              intro v' w' hq' hg' ho'
                              exact hK _ _ (HW.out.app4 hL h9 h11 hq' hg' ho')
                            · refine StepJ.of rfl (fun K' hK => ?_)
                              simp only [opAt, List.getD_cons_zero, List.getD_cons_succ, Afr, fr, dstOf, if_true, List.getElem?_toArray, List.getElem?_cons_zero, List.getElem?_cons_succ, Option.bind_some, Act.put, List.setIfInBounds_toArray, List.set_cons_succ, List.set_cons_zero] at hK ⊢
                              go_simp
                              exact hK _ _ (HW.out.quiet 5 (by omega))
                            · have hn : Lf 13 = false := by
                                cases e : Lf 13 with
                                | false => rfl
                                | true => rw [hcl 13 (by decide) e 6 (by decide) (by kernel_rfl)] at hL; cases hL
                              have hc := HW.out.out.cell 1
                              simp only [hn, Bool.false_eq_true, if_false, List.getElem?_cons_zero, List.getElem?_cons_succ] at hc
                              have v5 := HW.out.t5 (hdep 5 (by decide) (by kernel_rfl))
                              refine StepJ.of rfl (fun K' hK => ?_)
                              simp only [v5, opAt, List.getD_cons_zero, List.getD_cons_succ, Afr, fr, dstOf, if_true, List.getElem?_toArray, List.getElem?_cons_zero, List.getElem?_cons_succ, Option.bind_some, Act.put, List.setIfInBounds_toArray, List.set_cons_succ, List.set_cons_zero] at hK ⊢
                              go_simp
                              exact hK _ _ (HW.out.quiet 6 (by omega))
                            · refine StepJ.of rfl (fun K' hK => ?_)
                              simp only [opAt, List.getD_cons_zero, List.getD_cons_succ, Afr, fr, dstOf, if_true, List.getElem?_toArray, List.getElem?_cons_zero, List.getElem?_cons_succ, Option.bind_some, Act.put, List.setIfInBounds_toArray, List.set_cons_succ, List.set_cons_zero] at hK ⊢
                              go_simp
                              exact hK _ _ (HW.out.quiet 7 (by omega))
                            · have v7 := HW.out.t7 (hdep 7 (by decide) (by kernel_rfl))
                              refine StepJ.of rfl (fun K' hK => ?_)
                              simp only [v7, opAt, List.getD_cons_zero, List.getD_cons_succ, Afr, fr, dstOf, if_true, List.getElem?_toArray, List.getElem?_cons_zero, List.getElem?_cons_succ, Option.bind_some, Act.put, List.setIfInBounds_toArray, List.set_cons_succ, List.set_cons_zero] at hK ⊢
                              go_simp
                              exact hK _ _ (HW.out.build8 (fun g e => by have h1 := (HS3.out.rl.base e).2; have h2 := HW.out.below.size; omega))
                            · have h13 : Lf 13 = false := by
                                cases e : Lf 13 with
                                | false => rfl
                                | true => rw [hcl 13 (by decide) e 9 (by decide) (by kernel_rfl)] at hL; cases hL
                              have h4 := hdep 4 (by decide) (by kernel_rfl)
                              have v6 := HW.out.t6 (hdep 6 (by decide) (by kernel_rfl))
                              obtain ⟨b8, v8, hb8, -⟩ := HW.out.t8 (hdep 8 (by decide) (by kernel_rfl)) hL
                              have hq := HW.out.r2
                              simp only [hL, Bool.false_eq_true, if_false] at hq
                              have hll : (coefTo L K V bd k).length ≤ 65536 := by simp [coefTo]; omega
                              have hob := HW.out.out.lt
                              refine StepJ.of rfl (fun K' hK => ?_)
                              simp only [v6, v8, opAt, List.getD_cons_zero, List.getD_cons_succ, Afr, fr, dstOf, if_true, List.getElem?_toArray, List.getElem?_cons_zero, List.getElem?_cons_succ, Option.bind_some, Act.put, List.setIfInBounds_toArray, List.set_cons_succ, List.set_cons_zero] at hK ⊢
                              refine wp_appendQ (.tmp 132) (.tmp 134) 23 Tryz.underlying23 rfl (w2.heap.size + 1) vk (coefTo L K V bd k) _ rfl hq b8 1 rfl hb8 HYI.out (by omega) (by omega) ?_
                              intro v' w' hq' hg' ho'
                              exact hK _ _ (HW.out.app9 h4 hL h13 hq' hg' ho')
                            · refine StepJ.of rfl (fun K' hK => ?_)
                              simp only [opAt, List.getD_cons_zero, List.getD_cons_succ, Afr, fr, dstOf, if_true, List.getElem?_toArray, List.getElem?_cons_zero, List.getElem?_cons_succ, Option.bind_some, Act.put, List.setIfInBounds_toArray, List.set_cons_succ, List.set_cons_zero] at hK ⊢
                              go_simp
                              exact hK _ _ (HW.out.quiet 10 (by omega))
                            · have h4 := hdep 4 (by decide) (by kernel_rfl)
                              have h9 := hdep 9 (by decide) (by kernel_rfl)
                              have v10 := HW.out.t10 (hdep 10 (by decide) (by kernel_rfl))
                              have hq := HW.out.r1
                              simp only [h4, if_true] at hq
                              obtain ⟨a8, n8, c8, e8⟩ := hq.form
                              have hc := HW.out.out.cell 0
                              have hfz := HW.out.out.free 0
                              have hst := HW.out.store 11 h4 h9 (by omega) undef
                              simp only [if_true, e8] at hst
                              refine StepJ.of rfl (fun K' hK => ?_)
                              simp only [v10, e8, opAt, List.getD_cons_zero, List.getD_cons_succ, Afr, fr, dstOf, if_true, List.getElem?_toArray, List.getElem?_cons_zero, List.getElem?_cons_succ, Option.bind_some, Act.put, List.setIfInBounds_toArray, List.set_cons_succ, List.set_cons_zero] at hK ⊢
                              go_simp
                              exact hK _ _ hst
                            · refine StepJ.of rfl (fun K' hK => ?_)
                              simp only [opAt, List.getD_cons_zero, List.getD_cons_succ, Afr, fr, dstOf, if_true, List.getElem?_toArray, List.getElem?_cons_zero, List.getElem?_cons_succ, Option.bind_some, Act.put, List.setIfInBounds_toArray, List.set_cons_succ, List.set_cons_zero] at hK ⊢
                              go_simp
                              exact hK _ _ (HW.out.quiet 12 (by omega))
                            · have h4 := hdep 4 (by decide) (by kernel_rfl)
                              have h9 := hdep 9 (by decide) (by kernel_rfl)
                              have v12 := HW.out.t12 (hdep 12 (by decide) (by kernel_rfl))
                              have hq := HW.out.r2
                              simp only [h9, if_true] at hq
                              obtain ⟨a8, n8, c8, e8⟩ := hq.form
                              have hc := HW.out.out.cell 1
                              have hfz := HW.out.out.free 1
                              have hst := HW.out.store 13 h4 h9 (by omega) undef
                              simp only [Nat.reduceEqDiff, if_false, e8] at hst
                              refine StepJ.of rfl (fun K' hK => ?_)
                              simp only [v12, e8, opAt, List.getD_cons_zero, List.getD_cons_succ, Afr, fr, dstOf, if_true, List.getElem?_toArray, List.getElem?_cons_zero, List.getElem?_cons_succ, Option.bind_some, Act.put, List.setIfInBounds_toArray, List.set_cons_succ, List.set_cons_zero] at hK ⊢
                              go_simp
                              exact hK _ _ hst
                          case fin =>
                            intro vals Lf wx hall hW
                            obtain ⟨f1, f2, f3, f4, f5⟩ := hW.end hall
                            have HN4 := Lib.hid (HS3.out.step hlt f5 f1 (by rw [HEX.out]; exact f2) (by rw [HEY.out]; exact f3) f4)
                            clear f1 f2 f3 f4 f5 hW hall
                            simp only [Afr, List.length_cons, List.length_nil, Nat.reduceAdd, fr, dstOf, if_true, List.getElem?_toArray, List.getElem?_cons_zero, List.getElem?_cons_succ, Option.bind_some, Act.put, List.setIfInBounds_toArray, List.set_cons_succ, List.set_cons_zero]
                            go_wp2
                            first
                              | (go_roundw
                                 case rel => (exact ⟨k + 1, vals 4, vals 9, hlt, by go_num, by rw [HSS.out, HEY.out], HN4.out⟩)
                                 case measure => (simp [intOf]; omega))
                              | (refine ⟨?_, ?_⟩
                                 · (exact ⟨k + 1, vals 4, vals 9, hlt, by go_num, by rw [HSS.out, HEY.out], HN4.out⟩)
                                 · (simp [intOf]; omega))
                      · obtain rfl : k = V.length := by omega
                        obtain ⟨al, nl, cl, rfl⟩ := HS3.out.rl.form
                        obtain ⟨ak, nk, ck, rfl⟩ := HS3.out.rk.form
                        have kx := hbx.cell
                        have kf := hbx.free
                        have hsum : sumN L K V bd V.length = sumI (fun v => minI (absI (byTo L K v L.length)) bd) V := by unfold sumN; rw [List.take_length]
                        have HBW := Lib.hid hbw
                        clear hbx hup hbw
                        by_cases g1 : sumN L K V bd V.length < bd
                        · have HF : Hid (normP L K B = (⟨[], [], 1⟩, 0)) := Lib.hid (by rw [HNP.out]; unfold normC; rw [if_neg (by omega), ← hsum, if_pos g1])
                          clear hsum
                          go_wp2
                          refine bodyPost_ret (v := .tuple #[.agg #[.slice none 0 0, .slice none 0 0, .int .i64 1], .int .i64 0]) (by simp [results, Tryz.f44, go_sem, *]) rfl ⟨_, by rw [HF.out], by rw [HF.out]; exact ⟨_, _, rfl, QRow.nil _ _, QRow.nil _ _, show InI (1 : Int) from (by unfold InI; omega), Nat.zero_le _, Nat.zero_le _⟩, below3 HBW.out _ (Nat.le_refl _) _ _ _⟩
                        · by_cases g2 : 16777216 < bd
                          · have HF : Hid (normP L K B = (⟨[], [], 0⟩, 3)) := Lib.hid (by rw [HNP.out]; unfold normC; rw [if_neg (by omega), ← hsum, if_neg g1, if_pos g2])
                            clear hsum
                            go_wp2
                            refine bodyPost_ret (v := .tuple #[.agg #[.slice none 0 0, .slice none 0 0, .int .i64 0], .int .i64 3]) (by simp [results, Tryz.f44, go_sem, *]) rfl ⟨_, by rw [HF.out], by rw [HF.out]; exact ⟨_, _, rfl, QRow.nil _ _, QRow.nil _ _, show InI (0 : Int) from (by unfold InI; omega), Nat.zero_le _, Nat.zero_le _⟩, below3 HBW.out _ (Nat.le_refl _) _ _ _⟩
                          · have HF : Hid (normP L K B = (⟨litsTo L K V V.length, coefTo L K V bd V.length, bd⟩, 0)) := Lib.hid (by rw [HNP.out]; unfold normC; rw [if_neg (by omega), ← hsum, if_neg g1, if_neg g2]; unfold litsTo coefTo; rw [List.take_length])
                            have hll : (litsTo L K V V.length).length ≤ 65536 := by simp [litsTo]; omega
                            have hlk : (coefTo L K V bd V.length).length ≤ 65536 := by simp [coefTo]; omega
                            clear hsum
                            go_wp2
                            refine bodyPost_ret (v := .tuple #[.agg #[.slice al nl cl, .slice ak nk ck, .int .i64 bd], .int .i64 0]) (by simp [results, Tryz.f44, go_sem, *]) rfl ⟨_, by rw [HF.out], ?_, below3 HBW.out _ (Nat.le_refl _) _ _ _⟩
                            rw [HF.out]
                            exact ⟨_, _, rfl, (row3 HS3.out.rl w.heap.size (by omega) _ _ _).mono (by omega), (row3 HS3.out.rk w.heap.size (by omega) _ _ _).mono (by omega), show InI bd from (by unfold InI; omega), hll, hlk⟩
                · have hby : True := trivial
                  go_upto_region 19 with (at_next; refine wpList_mnext1 (mapK L K L.length) (w.heap.size + 1) wq.heap.size left cnt2 hc kvI_inj rfl _ rfl rfl HS2.out.rng ?_; intro kk vv w1 cnt3 hl1 hv1 hr1 hc1 hg1 hs1 hen; obtain ⟨hkm, rfl⟩ := mapK_some hv1; have HN1 := Lib.hid (HS2.out.step hr1 hg1); have HM1 := Lib.hid (HMT.out.push hl1 hkm); have hby := HBY.out kk; have hf0 := flK_snoc L K ks kk; have hs0 := lowS_snoc L K ks kk; have HLE := Lib.hid hr1.left_eq; have hki : InI kk := (by obtain ⟨j, hj, e⟩ := (mem_takeK (Nat.le_refl _)).1 (by rw [List.take_length]; exact hkm); have := (pok_at (HPOK.out j hj)).2; unfold InI; omega); have HKI := Lib.hid hki; clear hl1 hv1 hkm hr1 hg1 hki hs1)
                  by_cases g0 : byTo L K kk L.length = 0
                  · rw [if_pos g0] at hf0
                    rw [if_neg (by omega)] at hs0
                    have HN2 := Lib.hid HN1.out
                    rw [← hf0] at HN2
                    have HS0 := Lib.hid hs0
                    clear hs0 hf0
                    go_wp2
                    first
                      | (go_roundw
                         case rel => (exact ⟨_, cnt3, ks ++ [kk], HM1.out, by rw [HS0.out], HN2.out⟩)
                         case measure => (rw [HLE.out, hle]; exact hc1))
                      | (refine ⟨?_, ?_⟩
                         · (exact ⟨_, cnt3, ks ++ [kk], HM1.out, by rw [HS0.out], HN2.out⟩)
                         · (rw [HLE.out, hle]; exact hc1))
                  · rw [if_neg g0] at hf0
                    have hfl : (flK L K ks).length ≤ ks.length := List.length_filter_le _ _
                    have hap8 : ((flK L K ks).length + 1) * 8 ≤ 140737488351232 := by omega
                    have hz1 : wq.heap.size + 1 ≤ (w1.alloc (.cells #[.int .i64 kk] 3)).heap.size := by have := HN1.out.rng.lt; simp; omega
                    by_cases g1 : byTo L K kk L.length < 0
                    · rw [if_pos g1] at hs0
                      have HS0 := Lib.hid hs0
                      have HF0 := Lib.hid hf0
                      clear hs0 hf0
                      go_wp2_with (at_builtin; refine wpList_append_own_at _ rfl _ _ 23 rfl (wq.heap.size + 1) 3 i0 (.int .i64 0) 1 8 Tryz.underlying23 hi hz0 hz1' hz2 rfl (by decide) _ _ _ rfl (HN1.out.row.alloc _) ⟨w1.heap.size, 0, none⟩ 1 1 [.int .i64 kk] rfl rfl (cell_one_new _ _ _) (by simp [Value.oneCell']) (by unfold maxLen; omega) (by omega) hz1 ?_; intro v4 w4 hown' hgrow _ _; have HN2 := Lib.hid (HN1.out.push hgrow hown'); clear hown' hgrow)
                      rw [← HF0.out] at HN2
                      first
                        | (go_roundw
                           case rel => (exact ⟨_, cnt3, ks ++ [kk], HM1.out, by rw [HS0.out]; go_num, HN2.out⟩)
                           case measure => (rw [HN2.out.rng.left_eq, hle]; exact hc1))
                        | (refine ⟨?_, ?_⟩
                           · (exact ⟨_, cnt3, ks ++ [kk], HM1.out, by rw [HS0.out]; go_num, HN2.out⟩)
                           · (rw [HN2.out.rng.left_eq, hle]; exact hc1))
                    · rw [if_neg g1] at hs0
                      have HS0 := Lib.hid hs0
                      have HF0 := Lib.hid hf0
                      clear hs0 hf0
                      go_wp2_with (at_builtin; refine wpList_append_own_at _ rfl _ _ 23 rfl (wq.heap.size + 1) 3 i0 (.int .i64 0) 1 8 Tryz.underlying23 hi hz0 hz1' hz2 rfl (by decide) _ _ _ rfl (HN1.out.row.alloc _) ⟨w1.heap.size, 0, none⟩ 1 1 [.int .i64 kk] rfl rfl (cell_one_new _ _ _) (by simp [Value.oneCell']) (by unfold maxLen; omega) (by omega) hz1 ?_; intro v4 w4 hown' hgrow _ _; have HN2 := Lib.hid (HN1.out.push hgrow hown'); clear hown' hgrow)
                      rw [← HF0.out] at HN2
                      first
                        | (go_roundw
                           case rel => (exact ⟨_, cnt3, ks ++ [kk], HM1.out, by rw [HS0.out], HN2.out⟩)
                           case measure => (rw [HN2.out.rng.left_eq, hle]; exact hc1))
                        | (refine ⟨?_, ?_⟩
                           · (exact ⟨_, cnt3, ks ++ [kk], HM1.out, by rw [HS0.out], HN2.out⟩)
                           · (rw [HN2.out.rng.left_eq, hle]; exact hc1))
  · have HF := Lib.hid (HERR.out (.inl hlen))
    have e1 : ((L.length : Int) != (K.length : Int)) = true := by simp; omega
    have kx := hB0.cell
    go_enter Tryz.func44, Tryz.ntmps44
    go_wp2
    refine bodyPost_ret (v := .tuple #[.agg #[.slice none 0 0, .slice none 0 0, .int .i64 0], .int .i64 2]) (by simp [results, Tryz.f44, go_sem, *]) rfl ⟨_, by rw [HF.out], by rw [HF.out]; exact ⟨_, _, rfl, QRow.nil _ _, QRow.nil _ _, show InI (0 : Int) from (by unfold InI; omega), Nat.zero_le _, Nat.zero_le _⟩, HAL.out⟩
end Go.Proofs.YteblddnoegbalaaGreat
