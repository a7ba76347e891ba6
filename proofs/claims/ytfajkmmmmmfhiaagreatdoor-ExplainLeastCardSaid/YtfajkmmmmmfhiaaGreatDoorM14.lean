/- My texts Tx3, Tx4, Lay, Pb1, Pb3, PbS, Aw0, Tx5, merged. -/
import Derived.Test.YtfajkmmmmmfhiaaGreatDoorM12
import Derived.Test.YtfajkmmmmmfhiaaGreatDoorM09
import Derived.Test.YtfajkmmmmmfhiaaGreatDoorM07
import Derived.Test.YtfajkmmmmmfhiaaGreatDoorM06
import Derived.Test.YtfajkmmmmmfhiaaGreatDoorM05
import Derived.Test.YtfajkmmmmmfhiaaGreatDoorM04
import Derived.Test.YtfajkmmmmmfhiaaGreatDoorM03
import Derived.Test.YtfajkmmmmmfhiaaGreatDoorM00
import Derived.Test.YtfajkmmmmmfhiaaGreatDoorProg
import Derived.WalkKit
import Derived.Lib.Hide
import Derived.Deep.QuietTactic
import Derived.BigQuiet
import Derived.WalkSpells
import Derived.Lib.SliceRun
import Derived.MapKept
import Derived.Maps.OwnSet
import Derived.Maps.OwnOps
import Derived.Test.YtfajkmmmmmfhiaaGreatDoorM02
import Derived.Test.YtfajkmmmmmfhiaaGreatDoorM01
import Derived.Deep.AppendLies
import Derived.Lib.Bytealg
import Derived.Deep.DeepCutAuto
import Derived.Laws.EntriesVeiled
import Derived.Deep.RegionWith
import Derived.Deep.OwnRows
import Derived.RangeFuncNested
import Derived.RangeFuncBound
import Derived.RangeFuncCalls
import Derived.RangeFuncLeaves
import Derived.OwnWalkIn
import Derived.TacticsInMore
import Derived.LoopNIn
import Derived.LoopIn
import Derived.Stop.RegionWithIn
import Derived.Shelf.Abstract
import Derived.Deep.LoopGhost
import Derived.Deep.DrawnRows
import Derived.Shelf.Sort.Plain
import Derived.Shelf.Slices.CompactI
import Derived.Shelf.Slices.In.SortNone
import Derived.Shelf.Strconv.Itoa3
import Derived.Shelf.Strings.BuilderK
import Derived.Shelf.Slices.SearchI
import Derived.Shelf.Slices.Empties
import Derived.Lib.ItoaNum
import Derived.Test.YtfajkmmmmmfhiaaGreatDoorM13
import Derived.Test.YtfajkmmmmmfhiaaGreatDoorM08
import Derived.Deep.AppendSrc
import Derived.Lib.SlicesCompact
import Derived.Sort.OwnSortedInts
import Derived.Test.YtfajkmmmmmfhiaaGreatDoorM11
import Derived.Test.YtfajkmmmmmfhiaaGreatDoorM10
import Derived.Sort.QuietThIn

namespace Go.Proofs.YtfajkmmmmmfhiaaGreatDoor
open Go.RowKit
theorem takeY_succ {l : List WY} {k : Nat} (h : k < l.length) : l.take (k + 1) = l.take k ++ [ixY l k] := by
  rw [List.take_succ_eq_append_getElem h]
  simp [ixY, List.getD_eq_getElem?_getD, List.getElem?_eq_getElem h]
set_option maxHeartbeats 4000000 in
set_option maxRecDepth 100000 in
theorem text_any (v vx : Value) (p : GP) (x : XP) (w : World) (h : ProgIs w v p) (hx : ExplIs w vx x) (hnm : ∀ i, (ixS p.names i).data.toList.length ≤ 40) (hw : ∀ y ∈ x.whys, OkN w y.atom ∧ OkN w y.rule ∧ OkN w y.level) (hr : ∀ a ∈ x.rest, OkN w a) (hwl : x.whys.length ≤ 100) (hrl : x.rest.length ≤ 100) :
    Calls Tryz.prog 18 #[v, vx] w fun e w' => e = .returned (.string ⟨(textX p.names x).toArray⟩) ∧ Below w.heap.size w w' := by
  obtain ⟨vn, vs, vr, vm, rfl, hps⟩ := h
  obtain ⟨vw, ve, rfl, hwh, hre⟩ := hx
  obtain ⟨aw, cw, rfl, -, hwlen, -⟩ := hwh.form
  obtain ⟨ae, ce, rfl, -⟩ := hre.form
  have HN := Lib.hid hps.names
  have HW := Lib.hid hwh
  have HR := Lib.hid hre
  have HOW := Lib.hid hw
  have HOR := Lib.hid hr
  have HNL := Lib.hid hnm
  have HAI : Hid (∀ i, InI (ix x.rest i)) := Lib.hid fun i => hre.2 i
  obtain ⟨T1, hT1⟩ : ∃ t, whysT p.names x.whys = t := ⟨_, rfl⟩
  have hlen1 : T1.length ≤ 40000 := by
    have := flat_len (lineX p.names) 400 x.whys fun y hy => by
      have ha := name_len hnm (hw y hy).1.2
      have hb := (hw y hy).2.1.2
      have hc := (hw y hy).2.2.2
      unfold lineX
      simp only [List.length_append, List.length_cons, List.length_nil]
      omega
    rw [← hT1]; unfold whysT; omega
  have HT1 := Lib.hid hT1
  have HAL := Lib.hid (bal (bal (Below.refl w.heap.size w) (.cells #[.int .i64 p.n, vn, vs, vr, vm] 27)) (.cells #[.slice aw x.whys.length cw, .slice ae x.rest.length ce] 30))
  have HPB := Lib.hid ((Blk.new w [.int .i64 p.n, vn, vs, vr, vm] 27).alloc (.cells #[.slice aw x.whys.length cw, .slice ae x.rest.length ce] 30))
  have HXB := Lib.hid (Blk.newAt (w.alloc (.cells #[.int .i64 p.n, vn, vs, vr, vm] 27)) [.slice aw x.whys.length cw, .slice ae x.rest.length ce] 30 (show w.heap.size + 1 = _ by simp))
  have HSZ : Hid (((w.alloc (.cells #[.int .i64 p.n, vn, vs, vr, vm] 27)).alloc (.cells #[.slice aw x.whys.length cw, .slice ae x.rest.length ce] 30)).heap.size = w.heap.size + 1 + 1) := Lib.hid (by simp)
  clear hps hwh hre hw hr hnm hT1
  go_enter Tryz.func18, Tryz.ntmps18
  go_upto_region 3 with fail
  generalize (w.alloc (.cells #[.int .i64 p.n, vn, vs, vr, vm] 27)).alloc (.cells #[.slice aw x.whys.length cw, .slice ae x.rest.length ce] 30) = w2 at *
  have hz2 : w2.heap.size = w.heap.size + 1 + 1 := HSZ.out
  rw [← hz2]
  have hald := bal (Below.refl w2.heap.size w2) (.cells #[.pointer none, .slice none 0 0] 100)
  have HS0 : Hid (StT w w2.heap.size [.int .i64 p.n, vn, vs, vr, vm] [.slice aw x.whys.length cw, .slice ae x.rest.length ce] [] (w2.alloc (.cells #[.pointer none, .slice none 0 0] 100))) := Lib.hid ⟨.inl ⟨Nat.le_refl _, .slice none 0 0, Blk.new w2 [.pointer none, .slice none 0 0] _, World.ownsRowF_nil _ _ _ _, by simp [Value.ownBlock]⟩, bon HAL.out hald, HPB.out.alloc _, HXB.out.alloc _, by omega⟩
  have kx0 := HS0.out.xbx.cell
  clear hald hz2 HAL HPB HXB
  generalize w2.alloc (.cells #[.pointer none, .slice none 0 0] 100) = w3 at *
  generalize w2.heap.size = b at *
  go_wp2_with fail
  go_loopw [15] (fun i wx => Tx1Rel w b [.int .i64 p.n, vn, vs, vr, vm] [.slice aw x.whys.length cw, .slice ae x.rest.length ce] p.names x.whys i wx) (fun i _ => x.whys.length - (intOf i).toNat)
  case atStart => exact ⟨0, Nat.zero_le _, rfl, HS0.out⟩
  case round =>
    obtain ⟨k, hk, rfl, hst⟩ := hrel
    have HS := Lib.hid hst
    clear hst
    by_cases hlt : k < x.whys.length
    · obtain ⟨y, hy⟩ : ∃ y, ixY x.whys k = y := ⟨_, rfl⟩
      have hym : y ∈ x.whys := by rw [← hy]; exact ixY_mem0 hlt
      obtain ⟨o1, o2, o3⟩ := HOW.out y hym
      have hyi := HW.out.2 y hym
      have HYI := Lib.hid hyi
      obtain ⟨bw, off, rfl, hbw, hc0, hc1, hc2⟩ := (HW.out.below HS.out.below).at hlt
      rw [hy] at hc0 hc1 hc2
      have HTK : Hid (whysT p.names (x.whys.take (k + 1)) = whysT p.names (x.whys.take k) ++ lineX p.names y) := Lib.hid (by rw [takeY_succ hlt, hy, whysT_snoc])
      have HTL : Hid ((whysT p.names (x.whys.take k)).length + (lineX p.names y).length ≤ 40000) := Lib.hid (by
        have e := HTK.out
        have h1 := flat_len (lineX p.names) 400 (x.whys.take (k + 1)) fun z hz => by
          have hzm := List.mem_of_mem_take hz
          have ha := name_len HNL.out (HOW.out z hzm).1.2
          have hb := (HOW.out z hzm).2.1.2
          have hc := (HOW.out z hzm).2.2.2
          unfold lineX
          simp only [List.length_append, List.length_cons, List.length_nil]
          omega
        have h2 : (whysT p.names (x.whys.take (k + 1))).length ≤ 400 * (x.whys.take (k + 1)).length := h1
        rw [e, List.length_append, List.length_take] at h2
        omega)
      have HO1 := Lib.hid o1
      have HO2 := Lib.hid o2
      have HO3 := Lib.hid o3
      clear o1 o2 o3 hy hym
      go_upto_region 6 with fail
      have hal6 := bal (Below.refl wr.heap.size wr) (.cells #[.int .i64 y.atom, .int .i64 y.rule, .int .i64 y.level] 49)
      have HS6 := Lib.hid (HS.out.on hal6)
      have HY6 := Lib.hid (Blk.new wr [.int .i64 y.atom, .int .i64 y.rule, .int .i64 y.level] 49)
      clear hal6 hc0 hc1 hc2 hyi
      generalize wr.alloc (.cells #[.int .i64 y.atom, .int .i64 y.rule, .int .i64 y.level] 49) = W1 at *
      generalize wr.heap.size = yb at *
      have kc : ∀ e : Ext W1, ∀ o, e.world.cell? ⟨yb, o, none⟩ = [Value.int .i64 y.atom, .int .i64 y.rule, .int .i64 y.level][o]? := fun e o => (bcell e.below _ o HY6.out.lt).trans (HY6.out.cell o)
      have hs3 : (nameX p.names y.atom).size ≤ 101 := by rw [← ByteArray.size_data, ← Array.length_toList]; exact name_len HNL.out HO1.out.2
      have hs7 : (itS y.rule).size ≤ 100 := by rw [← ByteArray.size_data, ← Array.length_toList]; exact HO2.out.2
      have hs12 : (itS y.level).size ≤ 100 := by rw [← ByteArray.size_data, ← Array.length_toList]; exact HO3.out.2
      have HLN : Hid (lineX p.names y = (nameX p.names y.atom).data.toList ++ ([32, 98, 121, 32] ++ ((itS y.rule).data.toList ++ ([32, 108, 101, 118, 101, 108, 32] ++ ((itS y.level).data.toList ++ [10]))))) := Lib.hid rfl
      have HB6 : Hid (Below w.heap.size w W1) := Lib.hid HS6.out.below
      have HNA : Hid (∀ W, Below W1.heap.size W1 W → Calls Tryz.prog 60 #[.int .i64 y.atom, .pointer (some ⟨w.heap.size, 0, none⟩)] W fun e W' => e = .returned (.string (nameX p.names y.atom)) ∧ Below W.heap.size W W') := Lib.hid fun W hW =>
        name_any p.names vn vs vr vm p.n w.heap.size y.atom W HYI.out.1 (HN.out.below (bon HB6.out hW)) (HS6.out.pbx.below hW) (HO1.out.1.below (bon HB6.out hW)) (by rw [← ByteArray.size_data, ← Array.length_toList]; exact HO1.out.2)
      have HNR : Hid (∀ W, Below W1.heap.size W1 W → Calls Tryz.prog 61 #[.int .i64 y.rule] W fun e W' => e = .returned (.string (itS y.rule)) ∧ Below W.heap.size W W') := Lib.hid fun W hW => HO2.out.1 W (bon HB6.out hW)
      have HNV : Hid (∀ W, Below W1.heap.size W1 W → Calls Tryz.prog 61 #[.int .i64 y.level] W fun e W' => e = .returned (.string (itS y.level)) ∧ Below W.heap.size W W') := Lib.hid fun W hW => HO3.out.1 W (bon HB6.out hW)
      generalize hg3 : nameX p.names y.atom = s3 at *
      generalize hg7 : itS y.rule = s7 at *
      generalize hg12 : itS y.level = s12 at *
      clear hg3 hg7 hg12
      refine wp_region_tailC [0, 1, 2, 3, 4, 5, 6, 7, 8, 9, 10, 11, 12, 13, 14, 15] 15 (fun _ => True) (txΦ s3 s7 s12) (fun i => i == 3 || i == 7 || i == 12) (by kernel_rfl) (by kernel_rfl) (by kernel_rfl) (by kernel_rfl) (fun _ _ => trivial) (fun _ _ _ _ _ _ _ h _ => h) ?_
      simp only [reorder, List.map_cons, List.map_nil, List.getD_cons_zero, List.getD_cons_succ, reix, atIn, List.map_toArray, List.idxOf_cons, List.idxOf_nil, Nat.reduceBEq, cond_true, cond_false, beq_self_eq_true, Nat.reduceAdd, Option.map, List.take_succ_cons, List.take_zero, List.drop_succ_cons, List.drop_zero]
      iterate 3 (refine walkP_head (by kernel_rfl) rfl rfl rfl (fun K hK => ?_); go_big_quiet_op; refine hK _ ?_; clear hK K)
      refine walkP_mem rfl rfl (fun wa hba _ => ?_) (fun v3 lo hi _ _ g3 => ?_)
      · go_simp
        exact (HNA.out wa hba).mono fun e w2 ⟨h1, h2⟩ => ⟨_, h1, h2, .inl ⟨rfl, rfl⟩⟩
      obtain rfl : v3 = .string s3 := by obtain ⟨_, h⟩ := g3; simpa [txΦ] using h
      simp only [Act.put, List.setIfInBounds_toArray, List.set_cons_succ, List.set_cons_zero]
      iterate 3 (refine walkP_head (by kernel_rfl) rfl rfl rfl (fun K hK => ?_); go_big_quiet_op; refine hK _ ?_; clear hK K)
      refine walkP_mem rfl rfl (fun wa hba _ => ?_) (fun v7 lo hi _ _ g7 => ?_)
      · go_simp
        exact (HNR.out wa hba).mono fun e w2 ⟨h1, h2⟩ => ⟨_, h1, h2, .inr (.inl ⟨rfl, rfl⟩)⟩
      obtain rfl : v7 = .string s7 := by obtain ⟨_, h⟩ := g7; simpa [txΦ] using h
      simp only [Act.put, List.setIfInBounds_toArray, List.set_cons_succ, List.set_cons_zero]
      iterate 4 (refine walkP_head (by kernel_rfl) rfl rfl rfl (fun K hK => ?_); go_big_quiet_op; refine hK _ ?_; clear hK K)
      refine walkP_mem rfl rfl (fun wa hba _ => ?_) (fun v12 lo hi _ _ g12 => ?_)
      · go_simp
        exact (HNV.out wa hba).mono fun e w2 ⟨h1, h2⟩ => ⟨_, h1, h2, .inr (.inr ⟨rfl, rfl⟩)⟩
      obtain rfl : v12 = .string s12 := by obtain ⟨_, h⟩ := g12; simpa [txΦ] using h
      simp only [Act.put, List.setIfInBounds_toArray, List.set_cons_succ, List.set_cons_zero]
      iterate 2 (refine walkP_head (by kernel_rfl) rfl rfl rfl (fun K hK => ?_); go_big_quiet_op; refine hK _ ?_; clear hK K)
      intro wx hbx hF hI hP
      clear hF hI hP
      refine tailC_call rfl (runWS _ wx) ?_
      simp only [List.map_toArray, List.map_cons, List.map_nil, Act.eval, Array.append_empty, List.append_toArray]
      refine ((HS6.out.on hbx).ws (lineX p.names y) _ ((line_data s3 s7 s12).trans HLN.out.symm) (by have := HTL.out; omega)).mono ?_
      rintro e W9 ⟨rfl, hs9⟩
      rw [← HTK.out] at hs9
      refine ⟨_, rfl, trivial, ?_⟩
      simp only [tailC]
      go_wp2_with fail
      first
        | (go_roundw
           case rel => (exact ⟨k + 1, hlt, by go_num, hs9⟩)
           case measure => (simp [intOf]; omega))
        | (refine ⟨?_, ?_⟩
           · (exact ⟨k + 1, hlt, by go_num, hs9⟩)
           · (simp [intOf]; omega))
    · obtain rfl : k = x.whys.length := by omega
      have HSE : Hid (StT w b [.int .i64 p.n, vn, vs, vr, vm] [.slice aw x.whys.length cw, .slice ae x.rest.length ce] T1 wr) := Lib.hid (by have := HS.out; rwa [List.take_length, HT1.out] at this)
      have kx1 := HSE.out.xbx.cell
      clear HS
      by_cases hr0 : x.rest.length = 0
      · have HF : Hid (textX p.names x = T1) := Lib.hid (by unfold textX restT; rw [if_pos hr0, List.append_nil, HT1.out])
        go_wp2_with (go_at_call 63; (with_reducible refine (Tryz.Builder_String_any_k b b _ _ HSE.out.bld (by have := HSE.out.blt; omega)).mono ?_); rintro e w5 ⟨rfl, -, hb5, -⟩)
        go_ret
        exact ⟨by rw [HF.out]; rfl, HSE.out.below.trans (hb5.mono (by have := HSE.out.lt; omega))⟩
      · have hlt0 : 0 < x.rest.length := by omega
        have HF : Hid (textX p.names x = (T1 ++ [114, 101, 115, 116]) ++ (atomsT p.names x.rest ++ [10])) := Lib.hid (by unfold textX restT; rw [if_neg hr0, HT1.out]; simp [List.append_assoc])
        have HTA : Hid (∀ k, (atomsT p.names (x.rest.take k)).length ≤ 10200) := Lib.hid fun k => by
          have h1 := flat_len (fun a => [32] ++ (nameX p.names a).data.toList) 102 (x.rest.take k) fun a ha => by
            have := name_len HNL.out (HOR.out a (List.mem_of_mem_take ha)).2
            simp only [List.length_append, List.length_cons, List.length_nil]
            omega
          have h2 : (atomsT p.names (x.rest.take k)).length ≤ 102 * (x.rest.take k).length := h1
          rw [List.length_take] at h2
          omega
        have HT1L := Lib.hid hlen1
        go_upto_region 10 with (go_at_call 62; (with_reducible refine (HSE.out.ws [114, 101, 115, 116] _ rfl (by have := HT1L.out; simp; omega)).mono ?_); rintro e w5 ⟨rfl, hs5⟩)
        have HS5 := Lib.hid hs5
        have kx5 := hs5.xbx.cell
        clear hs5 kx1
        go_wp2_with fail
        go_loopw [44] (fun i wx => Tx2Rel w b [.int .i64 p.n, vn, vs, vr, vm] [.slice aw x.whys.length cw, .slice ae x.rest.length ce] p.names (T1 ++ [114, 101, 115, 116]) x.rest i wx) (fun i _ => x.rest.length - (intOf i).toNat)
        case atStart => exact ⟨0, Nat.zero_le _, rfl, by have := HS5.out; simpa [atomsT] using this⟩
        case round =>
          obtain ⟨k, hk, rfl, hst⟩ := hrel
          have HS := Lib.hid hst
          clear hst
          by_cases hlt : k < x.rest.length
          · obtain ⟨a, ha⟩ : ∃ a, ix x.rest k = a := ⟨_, rfl⟩
            have ham : a ∈ x.rest := by rw [← ha]; exact ix_mem hlt
            have HOA := Lib.hid (HOR.out a ham)
            have HIA : Hid (InI a) := Lib.hid (by rw [← ha]; exact HAI.out k)
            obtain ⟨br, off, rfl, hbr, hc⟩ := (HR.out.below HS.out.below).at hlt
            rw [ha] at hc
            have HTK : Hid ((T1 ++ [114, 101, 115, 116]) ++ atomsT p.names (x.rest.take (k + 1)) = ((T1 ++ [114, 101, 115, 116]) ++ atomsT p.names (x.rest.take k)) ++ ([32] ++ (nameX p.names a).data.toList)) := Lib.hid (by rw [take_ix _ _ hlt, ha, atomsT_snoc]; simp only [List.append_assoc])
            have hs3 : (nameX p.names a).size ≤ 101 := by rw [← ByteArray.size_data, ← Array.length_toList]; exact name_len HNL.out HOA.out.2
            have HLL : Hid (((T1 ++ [114, 101, 115, 116]) ++ atomsT p.names (x.rest.take k)).length + ([32] ++ (nameX p.names a).data.toList).length ≤ 1000000) := Lib.hid (by
              have h1 := HTA.out k
              have h2 := name_len HNL.out HOA.out.2
              have h3 := HT1L.out
              simp only [List.length_append, List.length_cons, List.length_nil]
              omega)
            have HNA : Hid (∀ W, Below w.heap.size w W → Blk W w.heap.size [.int .i64 p.n, vn, vs, vr, vm] 27 → Calls Tryz.prog 60 #[.int .i64 a, .pointer (some ⟨w.heap.size, 0, none⟩)] W fun e W' => e = .returned (.string (nameX p.names a)) ∧ Below W.heap.size W W') := Lib.hid fun W hW hB =>
              name_any p.names vn vs vr vm p.n w.heap.size a W HIA.out (HN.out.below hW) hB (HOA.out.1.below hW) (by rw [← ByteArray.size_data, ← Array.length_toList]; exact HOA.out.2)
            have HSD : Hid ((⟨#[32]⟩ ++ nameX p.names a : ByteArray).data.toList = [32] ++ (nameX p.names a).data.toList) := Lib.hid (by rw [ByteArray.data_append]; simp)
            clear ha ham
            go_upto_region 13 with fail
            clear hc
            go_wp2_with (first
              | (go_at_call 62; (with_reducible refine (HS14.out.ws _ _ HSD.out HLL.out).mono ?_); rintro e w7 ⟨rfl, hs7⟩)
              | (go_at_call 60; (with_reducible refine (HNA.out _ HS.out.below HS.out.pbx).mono ?_); rintro e w6 ⟨rfl, hb6⟩; have HS14 := Lib.hid (HS.out.on hb6); clear hb6))
            rw [← HTK.out] at hs7
            first
              | (go_roundw
                 case rel => (exact ⟨k + 1, hlt, by go_num, hs7⟩)
                 case measure => (simp [intOf]; omega))
              | (refine ⟨?_, ?_⟩
                 · (exact ⟨k + 1, hlt, by go_num, hs7⟩)
                 · (simp [intOf]; omega))
          · obtain rfl : k = x.rest.length := by omega
            have HSF : Hid (StT w b [.int .i64 p.n, vn, vs, vr, vm] [.slice aw x.whys.length cw, .slice ae x.rest.length ce] ((T1 ++ [114, 101, 115, 116]) ++ atomsT p.names x.rest) wr) := Lib.hid (by have := HS.out; rwa [List.take_length] at this)
            have HLF : Hid (((T1 ++ [114, 101, 115, 116]) ++ atomsT p.names x.rest).length + [(10 : UInt8)].length ≤ 1000000) := Lib.hid (by
              have h1 := HTA.out x.rest.length
              rw [List.take_length] at h1
              have h3 := HT1L.out
              simp only [List.length_append, List.length_cons, List.length_nil]
              omega)
            clear HS
            go_wp2_with (first
              | (go_at_call 63; (with_reducible refine (Tryz.Builder_String_any_k b b _ _ HSG.out.bld (Nat.le_of_lt HSG.out.blt)).mono ?_); rintro e w8 ⟨rfl, -, hb8, -⟩)
              | (go_at_call 62; (with_reducible refine (HSF.out.ws [10] _ rfl HLF.out).mono ?_); rintro e w7 ⟨rfl, hs7⟩; have HSG := Lib.hid hs7; clear hs7))
            go_ret
            have e9 : (T1 ++ 114 :: 101 :: 115 :: 116 :: (atomsT p.names x.rest ++ [10])).toArray = (textX p.names x).toArray := by rw [HF.out]; simp
            exact ⟨(congrArg (fun z : Array UInt8 => Ending.returned (Value.string ⟨z⟩)) e9), HSG.out.below.trans (hb8.mono (by have := HSG.out.lt; omega))⟩
theorem ix_ext17 {a b : List Int} (hl : a.length = b.length) (h : ∀ i, i < a.length → ix a i = ix b i) : a = b := by
  refine List.ext_getElem hl fun i h1 h2 => ?_
  have := h i h1
  simpa [ix, List.getD, h1, h2] using this
theorem ixY_ext {a b : List WY} (hl : a.length = b.length) (h : ∀ i, i < a.length → ixY a i = ixY b i) : a = b := by
  refine List.ext_getElem hl fun i h1 h2 => ?_
  have := h i h1
  simpa [ixY, List.getD, h1, h2] using this
theorem ixK_ext {a b : List BK} (hl : a.length = b.length) (h : ∀ i, i < a.length → ixK a i = ixK b i) : a = b := by
  refine List.ext_getElem hl fun i h1 h2 => ?_
  have := h i h1
  simpa [ixK, List.getD, h1, h2] using this
def I17Rel (a b : List Int) (w : World) (i : Value) (wx : World) : Prop := ∃ k, k ≤ a.length ∧ i = .int .i64 k ∧ (∀ j, j < k → ix a j = ix b j) ∧ Below w.heap.size w wx
def B41Rel (a b : List BK) (w : World) (i : Value) (wx : World) : Prop := ∃ k, k ≤ a.length ∧ i = .int .i64 k ∧ (∀ j, j < k → ixK a j = ixK b j) ∧ Below w.heap.size w wx
theorem all_succ {α : Type} {f g : Nat → α} {k : Nat} (h : ∀ j, j < k → f j = g j) (hk : f k = g k) : ∀ j, j < k + 1 → f j = g j := fun j hj => by
  rcases Nat.lt_succ_iff_lt_or_eq.1 hj with h1 | rfl
  · exact h j h1
  · exact hk
set_option maxHeartbeats 2000000 in
set_option maxRecDepth 100000 in
theorem ints17_any (va vb : Value) (a b : List Int) (w : World) (ha : Ints w va a) (hb : Ints w vb b) :
    Calls Tryz.prog 23 #[va, vb] w fun e w' => e = .returned (.bool (decide (a = b))) ∧ Below w.heap.size w w' := by
  obtain ⟨a1, c1, rfl, -, hl1, -, hc1⟩ := ha.form
  obtain ⟨a2, c2, rfl, -, hl2, -, hc2⟩ := hb.form
  have F1 := Lib.hid ha.2
  have F2 := Lib.hid hb.2
  have HC1 := Lib.hid hc1
  have HC2 := Lib.hid hc2
  clear ha hb hc1 hc2
  go_enter Tryz.func23, Tryz.ntmps23
  by_cases e2 : a.length = b.length
  · have g2 : ((a.length : Int) != (b.length : Int)) = false := by simp [e2]
    have HE2 := Lib.hid e2
    clear e2
    go_wp2
    go_loopw [13] (fun i wx => I17Rel a b w i wx) (fun i _ => a.length - (intOf i).toNat)
    case atStart => exact ⟨0, Nat.zero_le _, rfl, fun j hj => absurd hj (Nat.not_lt_zero _), Below.refl _ _⟩
    case round =>
      obtain ⟨k, hk, rfl, hall, hbl⟩ := hrel
      have HALL := Lib.hid hall
      have HB := Lib.hid hbl
      clear hall hbl
      by_cases hlt : k < a.length
      · have hlt2 : k < b.length := by have := HE2.out; omega
        obtain ⟨b1, o1, rfl, hb1, hc⟩ := HC1.out (by omega)
        obtain ⟨b2, o2, rfl, hb2, hc'⟩ := HC2.out (by omega)
        have q1 := (bcell HB.out _ _ hb1).trans (hc k hlt)
        have q2 := (bcell HB.out _ _ hb2).trans (hc' k hlt2)
        have hz := HB.out.size
        have ke1 : ∀ e : Ext wr, e.world.cell? ⟨b1, o1 + k, none⟩ = some (.int .i64 (ix a k)) := fun e => (bcell e.below _ _ (by omega)).trans q1
        have ke2 : ∀ e : Ext wr, e.world.cell? ⟨b2, o2 + k, none⟩ = some (.int .i64 (ix b k)) := fun e => (bcell e.below _ _ (by omega)).trans q2
        have f1 := F1.out k
        have f2 := F2.out k
        clear hc hc' q1 q2
        by_cases he : ix a k = ix b k
        · have HN := Lib.hid (all_succ HALL.out he)
          have he' : (ix a k != ix b k) = false := by simp [he]
          clear he
          go_wp2
          refine wp_region_ext (by kernel_rfl) (by kernel_rfl) ?_
          repeat (go_big_quiet_step (fail))
          refine wpQuiet_nil ?_
          intro w9 hw'
          obtain ⟨e9, he9⟩ := hw'
          have hb9 := e9.below
          rw [← he9] at hb9
          clear he9 e9
          try dsimp only
          go_wp2
          first
            | (go_roundw
               case rel => (exact ⟨k + 1, hlt, by go_num, HN.out, bon HB.out hb9⟩)
               case measure => (simp [intOf]; omega))
            | (refine ⟨?_, ?_⟩
               · (exact ⟨k + 1, hlt, by go_num, HN.out, bon HB.out hb9⟩)
               · (simp [intOf]; omega))
        · have HF : Hid (decide (a = b) = false) := Lib.hid (decide_eq_false fun e => he (by rw [e]))
          have he' : (ix a k != ix b k) = true := by simp [he]
          clear he
          go_wp2
          refine wp_region_ext (by kernel_rfl) (by kernel_rfl) ?_
          repeat (go_big_quiet_step (fail))
          refine wpQuiet_nil ?_
          intro w9 hw'
          obtain ⟨e9, he9⟩ := hw'
          have hb9 := e9.below
          rw [← he9] at hb9
          clear he9 e9
          try dsimp only
          go_wp2
          go_ret
          exact ⟨ret_bool HF.out.symm, bon HB.out hb9⟩
      · obtain rfl : k = a.length := by omega
        have HF : Hid (decide (a = b) = true) := Lib.hid (decide_eq_true (ix_ext17 HE2.out fun j hj => HALL.out j hj))
        go_wp2
        go_ret
        exact ⟨ret_bool HF.out.symm, HB.out⟩
  · have g2 : ((a.length : Int) != (b.length : Int)) = true := by simp; omega
    have HF : Hid (decide (a = b) = false) := Lib.hid (decide_eq_false fun e => e2 (by rw [e]))
    clear e2
    go_wp2
    go_ret
    exact ⟨ret_bool HF.out.symm, Below.refl _ _⟩
set_option maxHeartbeats 2000000 in
set_option maxRecDepth 100000 in
theorem blocks41_any (va vb : Value) (a b : List BK) (w : World) (ha : BlksIs w va a) (hb : BlksIs w vb b) :
    Calls Tryz.prog 25 #[va, vb] w fun e w' => e = .returned (.bool (decide (a = b))) ∧ Below w.heap.size w w' := by
  obtain ⟨a1, c1, rfl, -, hl1, -, hc1⟩ := ha.form
  obtain ⟨a2, c2, rfl, -, hl2, -, hc2⟩ := hb.form
  have F1 := Lib.hid ha.2
  have F2 := Lib.hid hb.2
  have HC1 := Lib.hid hc1
  have HC2 := Lib.hid hc2
  clear ha hb hc1 hc2
  go_enter Tryz.func25, Tryz.ntmps25
  by_cases e2 : a.length = b.length
  · have g2 : ((a.length : Int) != (b.length : Int)) = false := by simp [e2]
    have HE2 := Lib.hid e2
    clear e2
    go_wp2
    go_loopw [13] (fun i wx => B41Rel a b w i wx) (fun i _ => a.length - (intOf i).toNat)
    case atStart => exact ⟨0, Nat.zero_le _, rfl, fun j hj => absurd hj (Nat.not_lt_zero _), Below.refl _ _⟩
    case round =>
      obtain ⟨k, hk, rfl, hall, hbl⟩ := hrel
      have HALL := Lib.hid hall
      have HB := Lib.hid hbl
      clear hall hbl
      by_cases hlt : k < a.length
      · have hlt2 : k < b.length := by have := HE2.out; omega
        obtain ⟨b1, o1, rfl, hb1, hc⟩ := HC1.out (by omega)
        obtain ⟨b2, o2, rfl, hb2, hc'⟩ := HC2.out (by omega)
        have q1 := hc k hlt
        have q2 := hc' k hlt2
        have hz := HB.out.size
        have ke1 : ∀ e : Ext wr, BlkCells e.world b1 (o1 + k * 3) (ixK a k) := fun e => ((hc k hlt).below HB.out hb1).below e.below (by omega)
        have ke2 : ∀ e : Ext wr, BlkCells e.world b2 (o2 + k * 3) (ixK b k) := fun e => ((hc' k hlt2).below HB.out hb2).below e.below (by omega)
        have f1 := F1.out _ (ixK_mem0 hlt)
        have f2 := F2.out _ (ixK_mem0 hlt2)
        unfold BI InI at f1 f2
        have HEX : Hid (ixK a k = ixK b k → ∀ j, j < k + 1 → ixK a j = ixK b j) := Lib.hid fun h => all_succ HALL.out h
        have HNE : Hid (ixK a k ≠ ixK b k → decide (a = b) = false) := Lib.hid fun h => decide_eq_false fun e => h (by rw [e])
        generalize ixK a k = y at *
        generalize ixK b k = z at *
        obtain ⟨y1, y2, y3⟩ := y
        obtain ⟨z1, z2, z3⟩ := z
        unfold BlkCells at ke1 ke2
        dsimp only at ke1 ke2 f1 f2
        have p1 := fun e => (ke1 e).1
        have p2 := fun e => (ke1 e).2.1
        have p3 := fun e => (ke1 e).2.2
        have r1 := fun e => (ke2 e).1
        have r2 := fun e => (ke2 e).2.1
        have r3 := fun e => (ke2 e).2.2
        clear hc hc' q1 q2 ke1 ke2
        by_cases e1 : y1 = z1
        · by_cases e2 : y2 = z2
          · by_cases e3 : y3 = z3
            · have HN := Lib.hid (HEX.out (by rw [e1, e2, e3]))
              subst e1
              subst e2
              subst e3
              clear HEX HNE
              go_wp2
              refine wp_region_ext (by kernel_rfl) (by kernel_rfl) ?_
              repeat (go_big_quiet_step (fail))
              refine wpQuiet_nil ?_
              intro w9 hw'
              obtain ⟨e9, he9⟩ := hw'
              have hb9 := e9.below
              rw [← he9] at hb9
              clear he9 e9
              try dsimp only
              go_wp2
              first
                | (go_roundw
                   case rel => (exact ⟨k + 1, hlt, by go_num, HN.out, bon HB.out hb9⟩)
                   case measure => (simp [intOf]; omega))
                | (refine ⟨?_, ?_⟩
                   · (exact ⟨k + 1, hlt, by go_num, HN.out, bon HB.out hb9⟩)
                   · (simp [intOf]; omega))
            · have e9 : (y3 == z3) = false := by simp [e3]
              have HF : Hid (decide (a = b) = false) := Lib.hid (HNE.out (by simp [e3]))
              subst e1
              subst e2
              clear HEX HNE e3
              go_wp2
              refine wp_region_ext (by kernel_rfl) (by kernel_rfl) ?_
              repeat (go_big_quiet_step (fail))
              refine wpQuiet_nil ?_
              intro w9 hw'
              obtain ⟨e9, he9⟩ := hw'
              have hb9 := e9.below
              rw [← he9] at hb9
              clear he9 e9
              try dsimp only
              go_wp2
              go_ret
              exact ⟨ret_bool HF.out.symm, bon HB.out hb9⟩
          · have e9 : (y2 == z2) = false := by simp [e2]
            have HF : Hid (decide (a = b) = false) := Lib.hid (HNE.out (by simp [e2]))
            subst e1
            clear HEX HNE e2
            go_wp2
            refine wp_region_ext (by kernel_rfl) (by kernel_rfl) ?_
            repeat (go_big_quiet_step (fail))
            refine wpQuiet_nil ?_
            intro w9 hw'
            obtain ⟨e9, he9⟩ := hw'
            have hb9 := e9.below
            rw [← he9] at hb9
            clear he9 e9
            try dsimp only
            go_wp2
            go_ret
            exact ⟨ret_bool HF.out.symm, bon HB.out hb9⟩
        · have e9 : (y1 == z1) = false := by simp [e1]
          have HF : Hid (decide (a = b) = false) := Lib.hid (HNE.out (by simp [e1]))
          clear HEX HNE e1
          go_wp2
          refine wp_region_ext (by kernel_rfl) (by kernel_rfl) ?_
          repeat (go_big_quiet_step (fail))
          refine wpQuiet_nil ?_
          intro w9 hw'
          obtain ⟨e9, he9⟩ := hw'
          have hb9 := e9.below
          rw [← he9] at hb9
          clear he9 e9
          try dsimp only
          go_wp2
          go_ret
          exact ⟨ret_bool HF.out.symm, bon HB.out hb9⟩
      · obtain rfl : k = a.length := by omega
        have HF : Hid (decide (a = b) = true) := Lib.hid (decide_eq_true (ixK_ext HE2.out fun j hj => HALL.out j hj))
        go_wp2
        go_ret
        exact ⟨ret_bool HF.out.symm, HB.out⟩
  · have g2 : ((a.length : Int) != (b.length : Int)) = true := by simp; omega
    have HF : Hid (decide (a = b) = false) := Lib.hid (decide_eq_false fun e => e2 (by rw [e]))
    clear e2
    go_wp2
    go_ret
    exact ⟨ret_bool HF.out.symm, Below.refl _ _⟩
structure SmSt (w : World) (ca cb : List Value) (W : World) : Prop where
  b1 : Blk W w.heap.size ca 30
  b2 : Blk W (w.heap.size + 1) cb 30
  below : Below w.heap.size w W
theorem SmSt.on {w W W' : World} {ca cb : List Value} (h : SmSt w ca cb W) (hb : Below W.heap.size W W') : SmSt w ca cb W' := ⟨h.b1.below hb, h.b2.below hb, bon h.below hb⟩
def S41Rel (w : World) (ca cb : List Value) (a b : List WY) (i : Value) (wx : World) : Prop := ∃ k, k ≤ a.length ∧ i = .int .i64 k ∧ (∀ j, j < k → ixY a j = ixY b j) ∧ SmSt w ca cb wx
def sameX (x y : XP) : Bool := decide (x.whys = y.whys) && decide (x.rest = y.rest)
set_option maxHeartbeats 4000000 in
set_option maxRecDepth 100000 in
theorem same41_any (va vb : Value) (x y : XP) (w : World) (ha : ExplIs w va x) (hb : ExplIs w vb y) :
    Calls Tryz.prog 20 #[va, vb] w fun e w' => e = .returned (.bool (sameX x y)) ∧ Below w.heap.size w w' := by
  obtain ⟨va1, va2, rfl, ha, hra⟩ := ha
  obtain ⟨vb1, vb2, rfl, hb, hrb⟩ := hb
  obtain ⟨a1, c1, rfl, -, hl1, -, hc1⟩ := ha.form
  obtain ⟨a2, c2, rfl, -, hl2, -, hc2⟩ := hb.form
  have F1 := Lib.hid ha.2
  have F2 := Lib.hid hb.2
  have HC1 := Lib.hid hc1
  have HC2 := Lib.hid hc2
  have HRA := Lib.hid hra
  have HRB := Lib.hid hrb
  obtain ⟨xw, xr⟩ := x
  obtain ⟨yw, yr⟩ := y
  dsimp only at *
  have HFX : Hid (xw ≠ yw → sameX ⟨xw, xr⟩ ⟨yw, yr⟩ = false) := Lib.hid fun h => by unfold sameX; rw [decide_eq_false h]; rfl
  have HTX : Hid (xw = yw → sameX ⟨xw, xr⟩ ⟨yw, yr⟩ = decide (xr = yr)) := Lib.hid fun h => by unfold sameX; rw [decide_eq_true h]; rfl
  clear ha hb hc1 hc2 hra hrb
  go_enter Tryz.func20, Tryz.ntmps20
  go_upto_region 1 with fail
  have HS0 : Hid (SmSt w [.slice a1 xw.length c1, va2] [.slice a2 yw.length c2, vb2] ((w.alloc (.cells #[.slice a1 xw.length c1, va2] 30)).alloc (.cells #[.slice a2 yw.length c2, vb2] 30))) := Lib.hid
    ⟨(Blk.new w [.slice a1 xw.length c1, va2] _).alloc _, Blk.new2 w _ [.slice a2 yw.length c2, vb2] _, bal (bal (Below.refl _ _) _) _⟩
  have kx1 := HS0.out.b1.cell
  have kx2 := HS0.out.b2.cell
  generalize (w.alloc (.cells #[.slice a1 xw.length c1, va2] 30)).alloc (.cells #[.slice a2 yw.length c2, vb2] 30) = W at *
  by_cases e2 : xw.length = yw.length
  · have g2 : ((xw.length : Int) != (yw.length : Int)) = false := by simp [e2]
    have HE2 := Lib.hid e2
    clear e2
    go_wp2
    go_loopw [16] (fun i wx => S41Rel w [.slice a1 xw.length c1, va2] [.slice a2 yw.length c2, vb2] xw yw i wx) (fun i _ => xw.length - (intOf i).toNat)
    case atStart => exact ⟨0, Nat.zero_le _, rfl, fun j hj => absurd hj (Nat.not_lt_zero _), HS0.out⟩
    case round =>
      obtain ⟨k, hk, rfl, hall, hst⟩ := hrel
      have HALL := Lib.hid hall
      have HS := Lib.hid hst
      have kr1 := hst.b1.cell
      have kr2 := hst.b2.cell
      clear hall hst kx1 kx2
      by_cases hlt : k < xw.length
      · have hlt2 : k < yw.length := by have := HE2.out; omega
        obtain ⟨b1, o1, rfl, hb1, hc⟩ := HC1.out (by omega)
        obtain ⟨b2, o2, rfl, hb2, hc'⟩ := HC2.out (by omega)
        have hz := HS.out.below.size
        have ke1 : ∀ e : Ext wr, WhyCells e.world b1 (o1 + k * 3) (ixY xw k) := fun e => ((hc k hlt).below HS.out.below hb1).below e.below (by omega)
        have ke2 : ∀ e : Ext wr, WhyCells e.world b2 (o2 + k * 3) (ixY yw k) := fun e => ((hc' k hlt2).below HS.out.below hb2).below e.below (by omega)
        have kp1 : ∀ e : Ext wr, ∀ o, e.world.cell? ⟨w.heap.size, o, none⟩ = _ := fun e o => (bcell e.below _ o HS.out.b1.lt).trans (HS.out.b1.cell o)
        have kp2 : ∀ e : Ext wr, ∀ o, e.world.cell? ⟨w.heap.size + 1, o, none⟩ = _ := fun e o => (bcell e.below _ o HS.out.b2.lt).trans (HS.out.b2.cell o)
        have f1 := F1.out _ (ixY_mem0 hlt)
        have f2 := F2.out _ (ixY_mem0 hlt2)
        unfold YI InI at f1 f2
        have HEX : Hid (ixY xw k = ixY yw k → ∀ j, j < k + 1 → ixY xw j = ixY yw j) := Lib.hid fun h => all_succ HALL.out h
        have HNE : Hid (ixY xw k ≠ ixY yw k → sameX ⟨xw, xr⟩ ⟨yw, yr⟩ = false) := Lib.hid fun h => HFX.out fun e => h (by rw [e])
        generalize ixY xw k = y at *
        generalize ixY yw k = z at *
        obtain ⟨y1, y2, y3⟩ := y
        obtain ⟨z1, z2, z3⟩ := z
        unfold WhyCells at ke1 ke2
        dsimp only at ke1 ke2 f1 f2
        have p1 := fun e => (ke1 e).1
        have p2 := fun e => (ke1 e).2.1
        have p3 := fun e => (ke1 e).2.2
        have r1 := fun e => (ke2 e).1
        have r2 := fun e => (ke2 e).2.1
        have r3 := fun e => (ke2 e).2.2
        clear hc hc' ke1 ke2
        by_cases e1 : y1 = z1
        · by_cases e2 : y2 = z2
          · by_cases e3 : y3 = z3
            · have HN := Lib.hid (HEX.out (by rw [e1, e2, e3]))
              subst e1
              subst e2
              subst e3
              clear HEX HNE
              go_wp2
              refine wp_region_ext (by kernel_rfl) (by kernel_rfl) ?_
              repeat (go_big_quiet_step (fail))
              refine wpQuiet_nil ?_
              intro w9 hw'
              obtain ⟨e9, he9⟩ := hw'
              have hb9 := e9.below
              rw [← he9] at hb9
              clear he9 e9
              try dsimp only
              go_wp2
              first
                | (go_roundw
                   case rel => (exact ⟨k + 1, hlt, by go_num, HN.out, HS.out.on hb9⟩)
                   case measure => (simp [intOf]; omega))
                | (refine ⟨?_, ?_⟩
                   · (exact ⟨k + 1, hlt, by go_num, HN.out, HS.out.on hb9⟩)
                   · (simp [intOf]; omega))
            · have e9 : (y3 == z3) = false := by simp [e3]
              have HF : Hid (sameX ⟨xw, xr⟩ ⟨yw, yr⟩ = false) := Lib.hid (HNE.out (by simp [e3]))
              subst e1
              subst e2
              clear HEX HNE e3
              go_wp2
              refine wp_region_ext (by kernel_rfl) (by kernel_rfl) ?_
              repeat (go_big_quiet_step (fail))
              refine wpQuiet_nil ?_
              intro w9 hw'
              obtain ⟨e9, he9⟩ := hw'
              have hb9 := e9.below
              rw [← he9] at hb9
              clear he9 e9
              try dsimp only
              go_wp2
              go_ret
              exact ⟨ret_bool HF.out.symm, bon HS.out.below hb9⟩
          · have e9 : (y2 == z2) = false := by simp [e2]
            have HF : Hid (sameX ⟨xw, xr⟩ ⟨yw, yr⟩ = false) := Lib.hid (HNE.out (by simp [e2]))
            subst e1
            clear HEX HNE e2
            go_wp2
            refine wp_region_ext (by kernel_rfl) (by kernel_rfl) ?_
            repeat (go_big_quiet_step (fail))
            refine wpQuiet_nil ?_
            intro w9 hw'
            obtain ⟨e9, he9⟩ := hw'
            have hb9 := e9.below
            rw [← he9] at hb9
            clear he9 e9
            try dsimp only
            go_wp2
            go_ret
            exact ⟨ret_bool HF.out.symm, bon HS.out.below hb9⟩
        · have e9 : (y1 == z1) = false := by simp [e1]
          have HF : Hid (sameX ⟨xw, xr⟩ ⟨yw, yr⟩ = false) := Lib.hid (HNE.out (by simp [e1]))
          clear HEX HNE e1
          go_wp2
          refine wp_region_ext (by kernel_rfl) (by kernel_rfl) ?_
          repeat (go_big_quiet_step (fail))
          refine wpQuiet_nil ?_
          intro w9 hw'
          obtain ⟨e9, he9⟩ := hw'
          have hb9 := e9.below
          rw [← he9] at hb9
          clear he9 e9
          try dsimp only
          go_wp2
          go_ret
          exact ⟨ret_bool HF.out.symm, bon HS.out.below hb9⟩
      · obtain rfl : k = xw.length := by omega
        have HF := Lib.hid (HTX.out (ixY_ext HE2.out fun j hj => HALL.out j hj))
        go_wp2_with (go_at_call 23; (with_reducible refine (ints17_any _ _ xr yr _ (HRA.out.below HS.out.below) (HRB.out.below HS.out.below)).mono ?_); rintro e w5 ⟨rfl, hb5⟩)
        go_ret
        exact ⟨ret_bool HF.out.symm, bon HS.out.below hb5⟩
  · have g2 : ((xw.length : Int) != (yw.length : Int)) = true := by simp; omega
    have HF : Hid (sameX ⟨xw, xr⟩ ⟨yw, yr⟩ = false) := Lib.hid (HFX.out fun e => e2 (by rw [e]))
    clear e2
    go_wp2
    go_ret
    exact ⟨ret_bool HF.out.symm, HS0.out.below⟩
theorem Blk.strs {w : World} {b : Nat} {l : List ByteArray} (h : Blk w b (l.map Value.string) 9) (hs : ∀ x ∈ l, x.size ≤ 1000) (hl : l.length ≤ 1000) : Strs w (.slice (some ⟨b, 0, none⟩) l.length l.length) l := by
  refine ⟨⟨_, l.length, rfl, Nat.le_refl _, by unfold maxLen; omega, by omega, fun _ => ⟨b, 0, rfl, h.lt, fun i hi => ?_⟩⟩, fun i => ?_⟩
  · rw [Nat.zero_add, h.cell]
    simp [ixS, List.getD_eq_getElem?_getD, hi]
  · unfold ixS
    rw [List.getD_eq_getElem?_getD]
    cases e : l[i]? with
    | none => decide
    | some x =>
      have := hs x (List.mem_of_getElem? e)
      simp only [Option.getD_some]
      omega
theorem Blk.rules {w : World} {b : Nat} {L : List RQ} (h : Blk w b (L.flatMap cells6) 60) (hs : ∀ q ∈ L, RuleSl w q.1 q.2.1 q.2.2.1 q.2.2.2) (hl : L.length ≤ 1000) : RulesIs w (.slice (some ⟨b, 0, none⟩) L.length L.length) (L.map (·.1)) := by
  have hg : ∀ i, i < L.length → L.getD i default ∈ L := fun i hi => by
    rw [List.getD_eq_getElem?_getD, List.getElem?_eq_getElem hi]
    exact List.getElem_mem hi
  have hx : ∀ i, i < L.length → ixR (L.map (·.1)) i = (L.getD i default).1 := fun i hi => by
    simp [ixR, List.getD_eq_getElem?_getD, hi]
  refine ⟨fun i => (L.getD i default).2.1, fun i => (L.getD i default).2.2.1, fun i => (L.getD i default).2.2.2, ⟨_, L.length, by rw [List.length_map], by rw [List.length_map]; exact Nat.le_refl _, by unfold maxLen; omega, by rw [List.length_map]; omega, fun _ => ⟨b, 0, rfl, h.lt, fun i hi j hj => ?_⟩⟩, fun i hi => ?_⟩
  · rw [List.length_map] at hi
    show _ = some (ruleCell (ixR (L.map (·.1)) i) (L.getD i default).2.1 (L.getD i default).2.2.1 (L.getD i default).2.2.2 j)
    rw [h.cell, hx i hi, Nat.zero_add, flat6 L i j hi hj]
    rcases (show j = 0 ∨ j = 1 ∨ j = 2 ∨ j = 3 ∨ j = 4 ∨ j = 5 by omega) with rfl | rfl | rfl | rfl | rfl | rfl <;> rfl
  · rw [List.length_map] at hi
    rw [hx i hi]
    exact hs _ (hg i hi)
theorem nil_mins (w : World) : MinsIs w (.slice none 0 0) [] := ⟨fun _ => undef, fun _ => undef, ⟨none, 0, rfl, Nat.le_refl _, by unfold maxLen; omega, by simp, fun h => absurd h (by simp)⟩, fun i hi => absurd hi (by simp)⟩
theorem inI_small {x : Int} (h : -1000000 ≤ x ∧ x ≤ 1000000) : InI x := by unfold InI; omega
end Go.Proofs.YtfajkmmmmmfhiaaGreatDoor
namespace Go.Proofs.YtfajkmmmmmfhiaaGreatDoor
open Go.RowKit Go.Shelf
attribute [local go_sem] Oper.semAt_some
def PBIs (w : World) (v : Value) (c : PBC) : Prop := ∃ vl vk, v = .agg #[vl, vk, .int .i64 c.bound] ∧ Ints w vl c.lits ∧ Ints w vk c.coefs ∧ InI c.bound
theorem PBIs.below {w w' : World} {v : Value} {c : PBC} (h : PBIs w v c) (hb : Below w.heap.size w w') : PBIs w' v c :=
  let ⟨vl, vk, e, h1, h2, h3⟩ := h; ⟨vl, vk, e, h1.below hb, h2.below hb, h3⟩
end Go.Proofs.YtfajkmmmmmfhiaaGreatDoor
namespace Go.Proofs.YtfajkmmmmmfhiaaGreatDoor
open Go.RowKit Go.Shelf
attribute [local go_sem] Oper.semAt_some
structure Up (w w1 W : World) : Prop where
  below : Below w.heap.size w W
  size : w1.heap.size ≤ W.heap.size
theorem Up.on {w w1 W W' : World} (h : Up w w1 W) (hb : Below W.heap.size W W') : Up w w1 W' := ⟨bon h.below hb, Nat.le_trans h.size hb.size⟩
theorem Up.set {w w1 W : World} (h : Up w w1 W) (b o : Nat) (v : Value) (hb : w.heap.size ≤ b) : Up w w1 (W.setCell ⟨b, o, none⟩ v) := ⟨h.below.setCell (p := ⟨b, o, none⟩) hb v, by rw [size_set]; exact h.size⟩
theorem Up.own {β : Type} {w w1 : World} {B : Nat} (hB : w.heap.size ≤ B) : OwnFrom B (fun (_ : β) W => Up w w1 W) := fun s X Y row hs hg hr =>
  ⟨ownFrom_below (Nat.le_refl _) hB s X Y row hs.below hg hr, Nat.le_trans hs.size hg.size⟩
end Go.Proofs.YtfajkmmmmmfhiaaGreatDoor
namespace Go.Proofs.YtfajkmmmmmfhiaaGreatDoor
open Go.RowKit Go.Shelf
attribute [local go_sem] Oper.semAt_some
theorem IsB.own {b : Nat} {bs : List Value} {X Y : World} {row : Option Nat} (h : IsB b b bs X) (hg : X.grownBy Y row) (hr : ∀ r, row = some r → ∃ o : Obj, X.heap[r]? = some o ∧ o.isCells = false) : IsB b b bs Y := by
  have key : ∀ p, BAt b b p bs X → BAt b b p bs Y := fun p ⟨h1, v, h2, h3, h4⟩ => by
    have hne : ∀ k (o : Obj), X.heap[k]? = some o → o.isCells = true → row ≠ some k := fun k o hk hc e => by
      obtain ⟨o2, ho, hc2⟩ := hr k e
      rw [hk] at ho
      cases ho
      rw [hc] at hc2
      cases hc2
    refine ⟨h1, v, (hg.block b (Array.getElem?_eq_some_iff.1 h2).1 (fun e => hne b _ h2 rfl e.symm)).trans h2, h3.kept hg ?_, h4⟩
    rcases h3.2 with ⟨rfl, _⟩ | ⟨g, cap, cur, fz, rfl, _, hgg, _⟩
    · exact .inl rfl
    · exact .inr (fun e => hne g _ hgg rfl e.symm)
  exact h.elim (fun x => .inl (key _ x)) (fun x => .inr (key _ x))
end Go.Proofs.YtfajkmmmmmfhiaaGreatDoor
namespace Go.Proofs.YtfajkmmmmmfhiaaGreatDoor
open Go.RowKit
theorem d1 : Lib.decDigits 1 = [49] := by unfold Lib.decDigits; rfl
theorem d2 : Lib.decDigits 2 = [50] := by unfold Lib.decDigits; rfl
theorem d3 : Lib.decDigits 3 = [51] := by unfold Lib.decDigits; rfl
def withP (n : Nat) (R : List GR) : GP := ⟨n, List.replicate n ⟨#[]⟩, [], R, []⟩
def exR : List GR := [⟨false, [1], false, 0, [-2], []⟩, ⟨true, [3], false, 0, [1], []⟩, ⟨false, [4, 5], false, 0, [3], []⟩, ⟨false, [5], true, 2, [1, 3, 6], [1, 1, 5]⟩, ⟨false, [2], false, 0, [-1], []⟩]
def exP : GP := withP 6 exR
def eyR : List GR := [⟨false, [1, 2], false, 0, [], []⟩, ⟨false, [1], false, 0, [2], []⟩, ⟨false, [2], false, 0, [1], []⟩]
def eyP : GP := withP 2 eyR
theorem Blk.intsL {w : World} {b : Nat} {l : List Int} (h : Blk w b (l.map (Value.int .i64)) 3) (hs : (l.all fun x => decide (-1000 ≤ x) && decide (x ≤ 1000)) && decide (l.length ≤ 1000) = true) : Ints w (.slice (some ⟨b, 0, none⟩) l.length l.length) l := by
  simp only [Bool.and_eq_true, List.all_eq_true, decide_eq_true_eq] at hs
  refine h.ints (fun i => ?_) (by have := hs.2; omega)
  unfold ix InI
  rw [List.getD_eq_getElem?_getD]
  cases e : l[i]? with
  | none => simp
  | some x =>
    have := hs.1 x (List.mem_of_getElem? e)
    simp only [Option.getD_some]
    omega
set_option maxHeartbeats 1000000 in
set_option maxRecDepth 100000 in
theorem with_any (n : Nat) (hn : n ≤ 1000) (vr : Value) (R : List GR) (w : World) (h : RulesIs w vr R) :
    Calls Tryz.prog 45 #[.int .i64 (n : Int), vr] w fun e w' => e = .returned (.agg #[.int .i64 (n : Int), .slice (some ⟨w.heap.size + 1, 0, none⟩) n n, .slice none 0 0, vr, .slice none 0 0]) ∧ Blk w' (w.heap.size + 1) ((List.replicate n (⟨#[]⟩ : ByteArray)).map Value.string) 9 ∧ Below w.heap.size w w' := by
  obtain ⟨a1, c1, rfl, -⟩ := h.form
  have hmk : ∀ w : World, (Instr.makeSlice 22 (.int .i64 (n : Int)) (.int .i64 (n : Int))).run Tryz.prog w = .ok (.slice (some ⟨w.heap.size, 0, none⟩) n n) (w.alloc (.cells (madeCells #[.string ⟨#[]⟩] n) 9)) := fun w => run_make_row' _ _ _ _ Tryz.underlying22 infoS rfl .i64 .i64 n (by omega) (by omega) w
  have HR := Lib.hid h
  clear h
  go_enter Tryz.func45, Tryz.ntmps45
  go_wp2
  generalize hW : World.alloc _ (.cells (madeCells #[.string ⟨#[]⟩] n) 9) = W1
  have b0 : Blk W1 w.heap.size [.int .i64 (n : Int), .slice (some ⟨w.heap.size + 1, 0, none⟩) n n, .slice none 0 0, .slice a1 R.length c1, .slice none 0 0] 27 := by rw [← hW]; (repeat first | (refine Blk.newAt _ _ _ ?_; first | rfl | (simp only [World.size_alloc]; done) | (simp only [World.size_alloc]; omega)) | refine Blk.alloc ?_ _)
  have b1 : Blk W1 (w.heap.size + 1) ((List.replicate n (⟨#[]⟩ : ByteArray)).map Value.string) 9 := by
    rw [← hW, made_list, List.map_replicate]; (repeat first | (refine Blk.newAt _ _ _ ?_; first | rfl | (simp only [World.size_alloc]; done) | (simp only [World.size_alloc]; omega)) | refine Blk.alloc ?_ _)
  have hb : Below w.heap.size w W1 := by rw [← hW]; exact bal (bal (Below.refl _ _) _) _
  have kx := b0.cell
  clear hW
  exact bodyPost_ret (v := .agg #[.int .i64 (n : Int), .slice (some ⟨w.heap.size + 1, 0, none⟩) n n, .slice none 0 0, .slice a1 R.length c1, .slice none 0 0]) (by simp [results, Tryz.f45, go_sem, kx]) rfl ⟨rfl, b1, hb⟩
theorem with_prog {n : Nat} (hn : n ≤ 1000) {R : List GR} {vr : Value} {b : Nat} {w : World} (hb : Blk w b ((List.replicate n (⟨#[]⟩ : ByteArray)).map Value.string) 9) (hr : RulesIs w vr R) :
    ProgIs w (.agg #[.int .i64 (n : Int), .slice (some ⟨b, 0, none⟩) n n, .slice none 0 0, vr, .slice none 0 0]) (withP n R) := by
  have hs := hb.strs (fun x hx => by rw [List.eq_of_mem_replicate hx]; decide) (by simp; omega)
  rw [List.length_replicate] at hs
  exact ⟨_, _, _, _, rfl, ⟨inI_small (by show -1000000 ≤ (n : Int) ∧ (n : Int) ≤ 1000000; omega), hs, nil_ints _, hr, nil_mins _⟩⟩
set_option maxHeartbeats 4000000 in
set_option maxRecDepth 100000 in
theorem example_any (w : World) :
    Calls Tryz.prog 44 #[] w fun e w' => ∃ v, e = .returned v ∧ (∃ an nn cn ar nr cr, v = .agg #[.int .i64 6, .slice an nn cn, .slice none 0 0, .slice ar nr cr, .slice none 0 0]) ∧ ProgIs w' v exP ∧ Below w.heap.size w w' := by
  go_enter Tryz.func44, Tryz.ntmps44
  go_wp2_with fail
  generalize hW : World.alloc _ (.cells #[.bool false, .slice (some ⟨w.heap.size + 1, 0, none⟩) 1 1, .bool false, .int .i64 0, .slice (some ⟨w.heap.size + 1 + 1, 0, none⟩) 1 1, .slice none 0 0, .bool true, .slice (some ⟨w.heap.size + 1 + 1 + 1, 0, none⟩) 1 1, .bool false, .int .i64 0, .slice (some ⟨w.heap.size + 1 + 1 + 1 + 1, 0, none⟩) 1 1, .slice none 0 0, .bool false, .slice (some ⟨w.heap.size + 1 + 1 + 1 + 1 + 1, 0, none⟩) 2 2, .bool false, .int .i64 0, .slice (some ⟨w.heap.size + 1 + 1 + 1 + 1 + 1 + 1, 0, none⟩) 1 1, .slice none 0 0, .bool false, .slice (some ⟨w.heap.size + 1 + 1 + 1 + 1 + 1 + 1 + 1, 0, none⟩) 1 1, .bool true, .int .i64 2, .slice (some ⟨w.heap.size + 1 + 1 + 1 + 1 + 1 + 1 + 1 + 1, 0, none⟩) 3 3, .slice (some ⟨w.heap.size + 1 + 1 + 1 + 1 + 1 + 1 + 1 + 1 + 1, 0, none⟩) 3 3, .bool false, .slice (some ⟨w.heap.size + 1 + 1 + 1 + 1 + 1 + 1 + 1 + 1 + 1 + 1, 0, none⟩) 1 1, .bool false, .int .i64 0, .slice (some ⟨w.heap.size + 1 + 1 + 1 + 1 + 1 + 1 + 1 + 1 + 1 + 1 + 1, 0, none⟩) 1 1, .slice none 0 0] 60) = W1
  have b1 : Blk W1 (w.heap.size + 1) ([1].map (Value.int .i64)) 3 := by rw [← hW]; (repeat first | (refine Blk.newAt _ _ _ ?_; first | rfl | (simp only [World.size_alloc]; done) | (simp only [World.size_alloc]; omega)) | refine Blk.alloc ?_ _)
  have b2 : Blk W1 (w.heap.size + 1 + 1) ([-2].map (Value.int .i64)) 3 := by rw [← hW]; (repeat first | (refine Blk.newAt _ _ _ ?_; first | rfl | (simp only [World.size_alloc]; done) | (simp only [World.size_alloc]; omega)) | refine Blk.alloc ?_ _)
  have b3 : Blk W1 (w.heap.size + 1 + 1 + 1) ([3].map (Value.int .i64)) 3 := by rw [← hW]; (repeat first | (refine Blk.newAt _ _ _ ?_; first | rfl | (simp only [World.size_alloc]; done) | (simp only [World.size_alloc]; omega)) | refine Blk.alloc ?_ _)
  have b4 : Blk W1 (w.heap.size + 1 + 1 + 1 + 1) ([1].map (Value.int .i64)) 3 := by rw [← hW]; (repeat first | (refine Blk.newAt _ _ _ ?_; first | rfl | (simp only [World.size_alloc]; done) | (simp only [World.size_alloc]; omega)) | refine Blk.alloc ?_ _)
  have b5 : Blk W1 (w.heap.size + 1 + 1 + 1 + 1 + 1) ([4, 5].map (Value.int .i64)) 3 := by rw [← hW]; (repeat first | (refine Blk.newAt _ _ _ ?_; first | rfl | (simp only [World.size_alloc]; done) | (simp only [World.size_alloc]; omega)) | refine Blk.alloc ?_ _)
  have b6 : Blk W1 (w.heap.size + 1 + 1 + 1 + 1 + 1 + 1) ([3].map (Value.int .i64)) 3 := by rw [← hW]; (repeat first | (refine Blk.newAt _ _ _ ?_; first | rfl | (simp only [World.size_alloc]; done) | (simp only [World.size_alloc]; omega)) | refine Blk.alloc ?_ _)
  have b7 : Blk W1 (w.heap.size + 1 + 1 + 1 + 1 + 1 + 1 + 1) ([5].map (Value.int .i64)) 3 := by rw [← hW]; (repeat first | (refine Blk.newAt _ _ _ ?_; first | rfl | (simp only [World.size_alloc]; done) | (simp only [World.size_alloc]; omega)) | refine Blk.alloc ?_ _)
  have b8 : Blk W1 (w.heap.size + 1 + 1 + 1 + 1 + 1 + 1 + 1 + 1) ([1, 3, 6].map (Value.int .i64)) 3 := by rw [← hW]; (repeat first | (refine Blk.newAt _ _ _ ?_; first | rfl | (simp only [World.size_alloc]; done) | (simp only [World.size_alloc]; omega)) | refine Blk.alloc ?_ _)
  have b9 : Blk W1 (w.heap.size + 1 + 1 + 1 + 1 + 1 + 1 + 1 + 1 + 1) ([1, 1, 5].map (Value.int .i64)) 3 := by rw [← hW]; (repeat first | (refine Blk.newAt _ _ _ ?_; first | rfl | (simp only [World.size_alloc]; done) | (simp only [World.size_alloc]; omega)) | refine Blk.alloc ?_ _)
  have b10 : Blk W1 (w.heap.size + 1 + 1 + 1 + 1 + 1 + 1 + 1 + 1 + 1 + 1) ([2].map (Value.int .i64)) 3 := by rw [← hW]; (repeat first | (refine Blk.newAt _ _ _ ?_; first | rfl | (simp only [World.size_alloc]; done) | (simp only [World.size_alloc]; omega)) | refine Blk.alloc ?_ _)
  have b11 : Blk W1 (w.heap.size + 1 + 1 + 1 + 1 + 1 + 1 + 1 + 1 + 1 + 1 + 1) ([-1].map (Value.int .i64)) 3 := by rw [← hW]; (repeat first | (refine Blk.newAt _ _ _ ?_; first | rfl | (simp only [World.size_alloc]; done) | (simp only [World.size_alloc]; omega)) | refine Blk.alloc ?_ _)
  have br : Blk W1 (w.heap.size + 1 + 1 + 1 + 1 + 1 + 1 + 1 + 1 + 1 + 1 + 1 + 1) ([((⟨false, [1], false, 0, [-2], []⟩ : GR), Value.slice (some ⟨w.heap.size + 1, 0, none⟩) 1 1, Value.slice (some ⟨w.heap.size + 1 + 1, 0, none⟩) 1 1, Value.slice none 0 0), ((⟨true, [3], false, 0, [1], []⟩ : GR), Value.slice (some ⟨w.heap.size + 1 + 1 + 1, 0, none⟩) 1 1, Value.slice (some ⟨w.heap.size + 1 + 1 + 1 + 1, 0, none⟩) 1 1, Value.slice none 0 0), ((⟨false, [4, 5], false, 0, [3], []⟩ : GR), Value.slice (some ⟨w.heap.size + 1 + 1 + 1 + 1 + 1, 0, none⟩) 2 2, Value.slice (some ⟨w.heap.size + 1 + 1 + 1 + 1 + 1 + 1, 0, none⟩) 1 1, Value.slice none 0 0), ((⟨false, [5], true, 2, [1, 3, 6], [1, 1, 5]⟩ : GR), Value.slice (some ⟨w.heap.size + 1 + 1 + 1 + 1 + 1 + 1 + 1, 0, none⟩) 1 1, Value.slice (some ⟨w.heap.size + 1 + 1 + 1 + 1 + 1 + 1 + 1 + 1, 0, none⟩) 3 3, Value.slice (some ⟨w.heap.size + 1 + 1 + 1 + 1 + 1 + 1 + 1 + 1 + 1, 0, none⟩) 3 3), ((⟨false, [2], false, 0, [-1], []⟩ : GR), Value.slice (some ⟨w.heap.size + 1 + 1 + 1 + 1 + 1 + 1 + 1 + 1 + 1 + 1, 0, none⟩) 1 1, Value.slice (some ⟨w.heap.size + 1 + 1 + 1 + 1 + 1 + 1 + 1 + 1 + 1 + 1 + 1, 0, none⟩) 1 1, Value.slice none 0 0)].flatMap cells6) 60 := by rw [← hW]; (repeat first | (refine Blk.newAt _ _ _ ?_; first | rfl | (simp only [World.size_alloc]; done) | (simp only [World.size_alloc]; omega)) | refine Blk.alloc ?_ _)
  have hb : Below w.heap.size w W1 := by rw [← hW]; repeat first | exact Below.refl _ _ | refine bal ?_ _
  have bx : Blk W1 w.heap.size [.int .i64 0, .slice none 0 0, .slice none 0 0, .slice none 0 0, .slice none 0 0] 27 := by rw [← hW]; (repeat first | (refine Blk.newAt _ _ _ ?_; first | rfl | (simp only [World.size_alloc]; done) | (simp only [World.size_alloc]; omega)) | refine Blk.alloc ?_ _)
  clear hW
  have hR : RulesIs W1 (.slice (some ⟨w.heap.size + 1 + 1 + 1 + 1 + 1 + 1 + 1 + 1 + 1 + 1 + 1 + 1, 0, none⟩) 5 5) [⟨false, [1], false, 0, [-2], []⟩, ⟨true, [3], false, 0, [1], []⟩, ⟨false, [4, 5], false, 0, [3], []⟩, ⟨false, [5], true, 2, [1, 3, 6], [1, 1, 5]⟩, ⟨false, [2], false, 0, [-1], []⟩] := br.rules (fun q hq => by
    simp only [List.mem_cons, List.not_mem_nil, or_false] at hq
    rcases hq with rfl | rfl | rfl | rfl | rfl
    · exact ⟨b1.intsL (by decide), b2.intsL (by decide), nil_ints _, (show InI 0 from inI_small (by decide))⟩
    · exact ⟨b3.intsL (by decide), b4.intsL (by decide), nil_ints _, (show InI 0 from inI_small (by decide))⟩
    · exact ⟨b5.intsL (by decide), b6.intsL (by decide), nil_ints _, (show InI 0 from inI_small (by decide))⟩
    · exact ⟨b7.intsL (by decide), b8.intsL (by decide), b9.intsL (by decide), (show InI 2 from inI_small (by decide))⟩
    · exact ⟨b10.intsL (by decide), b11.intsL (by decide), nil_ints _, (show InI 0 from inI_small (by decide))⟩) (by simp)
  refine (with_any 6 (by decide) _ exR W1 hR).mono ?_
  rintro e w2 ⟨rfl, hn, hb2⟩
  have hlt := bx.lt
  have hx2 := bx.below hb2
  have kf := hx2.free
  have kc2 := hx2.cell
  have HR2 := Lib.hid hR
  clear hR
  go_wp2_with fail
  have hx9 := ((((hx2.set 0 (.int .i64 6)).set 1 (.slice (some ⟨W1.heap.size + 1, 0, none⟩) 6 6)).set 2 (.slice none 0 0)).set 3 (.slice (some ⟨w.heap.size + 1 + 1 + 1 + 1 + 1 + 1 + 1 + 1 + 1 + 1 + 1 + 1, 0, none⟩) 5 5)).set 4 (.slice none 0 0)
  simp only [List.set_cons_zero, List.set_cons_succ] at hx9
  have hsame : ∀ i, i ≠ w.heap.size → (((((w2.setCell ⟨w.heap.size, 0, none⟩ (.int .i64 6)).setCell ⟨w.heap.size, 1, none⟩ (.slice (some ⟨W1.heap.size + 1, 0, none⟩) 6 6)).setCell ⟨w.heap.size, 2, none⟩ (.slice none 0 0)).setCell ⟨w.heap.size, 3, none⟩ (.slice (some ⟨w.heap.size + 1 + 1 + 1 + 1 + 1 + 1 + 1 + 1 + 1 + 1 + 1 + 1, 0, none⟩) 5 5)).setCell ⟨w.heap.size, 4, none⟩ (.slice none 0 0)).heap[i]? = w2.heap[i]? := fun i h1 =>
    (Below.heap_setCell _ _ _ _ h1).trans ((Below.heap_setCell _ _ _ _ h1).trans ((Below.heap_setCell _ _ _ _ h1).trans ((Below.heap_setCell _ _ _ _ h1).trans (Below.heap_setCell _ _ _ _ h1))))
  have hbel := (((((bon hb hb2).setCell (p := ⟨w.heap.size, 0, none⟩) (Nat.le_refl _) (.int .i64 6)).setCell (p := ⟨w.heap.size, 1, none⟩) (Nat.le_refl _) (.slice (some ⟨W1.heap.size + 1, 0, none⟩) 6 6)).setCell (p := ⟨w.heap.size, 2, none⟩) (Nat.le_refl _) (.slice none 0 0)).setCell (p := ⟨w.heap.size, 3, none⟩) (Nat.le_refl _) (.slice (some ⟨w.heap.size + 1 + 1 + 1 + 1 + 1 + 1 + 1 + 1 + 1 + 1 + 1 + 1, 0, none⟩) 5 5)).setCell (p := ⟨w.heap.size, 4, none⟩) (Nat.le_refl _) (.slice none 0 0)
  have kr9 := hx9.cell
  clear kc2 kf
  generalize (((((w2.setCell ⟨w.heap.size, 0, none⟩ (.int .i64 6)).setCell ⟨w.heap.size, 1, none⟩ (.slice (some ⟨W1.heap.size + 1, 0, none⟩) 6 6)).setCell ⟨w.heap.size, 2, none⟩ (.slice none 0 0)).setCell ⟨w.heap.size, 3, none⟩ (.slice (some ⟨w.heap.size + 1 + 1 + 1 + 1 + 1 + 1 + 1 + 1 + 1 + 1 + 1 + 1, 0, none⟩) 5 5)).setCell ⟨w.heap.size, 4, none⟩ (.slice none 0 0)) = W9 at *
  have hsm : ∀ i, i ≠ w.heap.size → i < W1.heap.size → W9.heap[i]? = W1.heap[i]? := fun i h1 h2 => (hsame i h1).trans (hb2.block i h2)
  have c1 := b1.same (hsm _ (by omega) b1.lt)
  have c2 := b2.same (hsm _ (by omega) b2.lt)
  have c3 := b3.same (hsm _ (by omega) b3.lt)
  have c4 := b4.same (hsm _ (by omega) b4.lt)
  have c5 := b5.same (hsm _ (by omega) b5.lt)
  have c6 := b6.same (hsm _ (by omega) b6.lt)
  have c7 := b7.same (hsm _ (by omega) b7.lt)
  have c8 := b8.same (hsm _ (by omega) b8.lt)
  have c9 := b9.same (hsm _ (by omega) b9.lt)
  have c10 := b10.same (hsm _ (by omega) b10.lt)
  have c11 := b11.same (hsm _ (by omega) b11.lt)
  have cr := br.same (hsm _ (by omega) br.lt)
  have hR : RulesIs W9 (.slice (some ⟨w.heap.size + 1 + 1 + 1 + 1 + 1 + 1 + 1 + 1 + 1 + 1 + 1 + 1, 0, none⟩) 5 5) [⟨false, [1], false, 0, [-2], []⟩, ⟨true, [3], false, 0, [1], []⟩, ⟨false, [4, 5], false, 0, [3], []⟩, ⟨false, [5], true, 2, [1, 3, 6], [1, 1, 5]⟩, ⟨false, [2], false, 0, [-1], []⟩] := cr.rules (fun q hq => by
    simp only [List.mem_cons, List.not_mem_nil, or_false] at hq
    rcases hq with rfl | rfl | rfl | rfl | rfl
    · exact ⟨c1.intsL (by decide), c2.intsL (by decide), nil_ints _, (show InI 0 from inI_small (by decide))⟩
    · exact ⟨c3.intsL (by decide), c4.intsL (by decide), nil_ints _, (show InI 0 from inI_small (by decide))⟩
    · exact ⟨c5.intsL (by decide), c6.intsL (by decide), nil_ints _, (show InI 0 from inI_small (by decide))⟩
    · exact ⟨c7.intsL (by decide), c8.intsL (by decide), c9.intsL (by decide), (show InI 2 from inI_small (by decide))⟩
    · exact ⟨c10.intsL (by decide), c11.intsL (by decide), nil_ints _, (show InI 0 from inI_small (by decide))⟩) (by simp)
  refine bodyPost_ret (v := .agg #[.int .i64 6, .slice (some ⟨W1.heap.size + 1, 0, none⟩) 6 6, .slice none 0 0, .slice (some ⟨w.heap.size + 1 + 1 + 1 + 1 + 1 + 1 + 1 + 1 + 1 + 1 + 1 + 1, 0, none⟩) 5 5, .slice none 0 0]) (by simp [results, Tryz.f44, go_sem, kr9]) rfl ⟨_, rfl, ⟨_, _, _, _, _, _, rfl⟩, with_prog (by decide) (hn.same (hsame _ (by omega))) hR, hbel⟩
end Go.Proofs.YtfajkmmmmmfhiaaGreatDoor
