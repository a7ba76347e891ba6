/- My texts Rg41i, Rg41a, merged. -/
import Derived.Test.YtgakoainjgjimaaGreatDoorM22
import Derived.Test.YtgakoainjgjimaaGreatDoorM15
import Derived.Test.YtgakoainjgjimaaGreatDoorM14
import Derived.Test.YtgakoainjgjimaaGreatDoorM09
import Derived.Test.YtgakoainjgjimaaGreatDoorM07
import Derived.Test.YtgakoainjgjimaaGreatDoorM20
import Derived.Test.YtgakoainjgjimaaGreatDoorM05
import Derived.Test.YtgakoainjgjimaaGreatDoorM04
import Derived.Test.YtgakoainjgjimaaGreatDoorM03
import Derived.Test.YtgakoainjgjimaaGreatDoorM00
import Derived.Test.YtgakoainjgjimaaGreatDoorProg
import Derived.WalkKit
import Derived.Lib.Hide
import Derived.Deep.QuietTactic
import Derived.BigQuiet
import Derived.WalkSpells
import Derived.Lib.SliceRun
import Derived.MapKept
import Derived.Maps.OwnSet
import Derived.Maps.OwnOps
import Derived.Test.YtgakoainjgjimaaGreatDoorM02
import Derived.Test.YtgakoainjgjimaaGreatDoorM01
import Derived.Deep.AppendLies
import Derived.Lib.Bytealg
import Derived.Deep.DeepCutAuto
import Derived.Laws.EntriesVeiled
import Derived.Deep.RegionWith
import Derived.Deep.OwnRows
import Derived.Test.YtgakoainjgjimaaGreatDoorM06
import Derived.RangeFuncNested
import Derived.RangeFuncBound
import Derived.RangeFuncCalls
import Derived.RangeFuncLeaves
import Derived.OwnWalkIn
import Derived.TacticsInMore
import Derived.LoopNIn
import Derived.LoopIn
import Derived.Stop.RegionWithIn
import Derived.Shelf.Abstract
import Derived.Deep.LoopGhost
import Derived.Deep.DrawnRows
import Derived.Shelf.Sort.Plain
import Derived.Shelf.Slices.CompactI
import Derived.Shelf.Slices.In.SortNone
import Derived.Shelf.Strconv.Itoa3
import Derived.Shelf.Strings.BuilderK
import Derived.Shelf.Slices.SearchI
import Derived.Shelf.Slices.Empties
import Derived.Lib.ItoaNum
import Derived.Test.YtgakoainjgjimaaGreatDoorM11
import Derived.Test.YtgakoainjgjimaaGreatDoorM10
import Derived.Test.YtgakoainjgjimaaGreatDoorM08
import Derived.Deep.AppendSrc
import Derived.Lib.SlicesCompact
import Derived.Sort.OwnSortedInts
import Derived.Test.YtgakoainjgjimaaGreatDoorM21
import Derived.Laws.IdiomStrings
import Derived.Test.YtgakoainjgjimaaGreatDoorM18

namespace Go.Proofs.YtgakoainjgjimaaGreatDoor
open Go.RowKit
def txR (a b c : ByteArray) (i : Nat) (_ : List Value) (v : Value) (lo hi : Nat) (w : World) : Prop :=
  (i = 8 ∧ v = .string a) ∨ (i = 17 ∧ v = .string b) ∨ (i = 26 ∧ v = .string c) ∨ (i = 28 ∧ v = .slice (some ⟨lo, 0, none⟩) 1 1 ∧ lo < hi ∧ Blk w lo [.int .u8 10] 5) ∨ (i = 29 ∧ v = .string ⟨#[10]⟩)
theorem txR_later (a b c : ByteArray) : ∀ i args v lo hi w w', txR a b c i args v lo hi w → Below w.heap.size w w' → txR a b c i args v lo hi w' := fun _ _ _ _ _ _ _ h hb => by
  rcases h with h | h | h | ⟨h1, h2, h3, h4⟩ | h
  · exact .inl h
  · exact .inr (.inl h)
  · exact .inr (.inr (.inl h))
  · exact .inr (.inr (.inr (.inl ⟨h1, h2, h3, h4.below hb⟩)))
  · exact .inr (.inr (.inr (.inr h)))
def Tr1 (w : World) (pc xc : List Value) (l : List ByteArray) (vn vw vq : Value) (x : XP) (s i : Value) (W : World) : Prop := ∃ k : Nat, k ≤ x.whys.length ∧ i = .int .i64 k ∧ s = .string ⟨(whysT l (x.whys.take k)).toArray⟩ ∧ Et w pc xc l vn vw vq x W
def Tr2 (w : World) (pc xc : List Value) (l : List ByteArray) (vn vw vq : Value) (x : XP) (t : List UInt8) (s i : Value) (W : World) : Prop := ∃ k : Nat, k ≤ x.rest.length ∧ i = .int .i64 k ∧ s = .string ⟨(t ++ atomsT l (x.rest.take k)).toArray⟩ ∧ Et w pc xc l vn vw vq x W
theorem ba_app (a b : List UInt8) : (⟨a.toArray⟩ : ByteArray) ++ ⟨b.toArray⟩ = ⟨(a ++ b).toArray⟩ := by
  apply ByteArray.ext
  simp [ByteArray.data_append]
theorem conv10 (w : World) : (convert 88 9 (.slice (some ⟨w.heap.size, 0, none⟩) 1 1)).run Tryz.prog (w.alloc (.cells #[.int .u8 10] 5)) = .ok (.string ⟨#[10]⟩) (w.alloc (.cells #[.int .u8 10] 5)) :=
  run_convert_bytes_back (P := Tryz.prog) _ 88 9 5 ⟨w.heap.size, 0, none⟩ 1 [10] Tryz.underlying88 Tryz.underlying5 Tryz.underlying9 (fun j hj => by
    obtain rfl : j = 0 := by simp at hj; omega
    exact (Blk.new w [.int .u8 10] 5).cell 0)
set_option maxHeartbeats 8000000 in
set_option maxRecDepth 100000 in
theorem rtext41_any (v vx : Value) (p : GP) (x : XP) (w : World) (h : ProgIs w v p) (hx : ExplIs w vx x) (hnm : ∀ i, (ixS p.names i).data.toList.length ≤ 40) (hw : ∀ y ∈ x.whys, OkN w y.atom ∧ OkN w y.rule ∧ OkN w y.level) (hr : ∀ a ∈ x.rest, OkN w a) (hwl : x.whys.length ≤ 100) (hrl : x.rest.length ≤ 100) :
    Calls Tryz.prog 14 #[v, vx] w fun e w' => e = .returned (.string ⟨(textX p.names x).toArray⟩) ∧ Below w.heap.size w w' := by
  have hp0 := h
  obtain ⟨vn, vs, vr, vm, rfl, hps⟩ := h
  obtain ⟨vw, ve, rfl, hwh, hre⟩ := hx
  obtain ⟨aw, cw, rfl, -, hwlen, -⟩ := id hwh.form
  obtain ⟨ae, ce, rfl, -⟩ := id hre.form
  have HP := Lib.hid hp0
  have HW := Lib.hid hwh
  have HR := Lib.hid hre
  have HOW := Lib.hid hw
  have HOR := Lib.hid hr
  have HNL := Lib.hid hnm
  have HAI : Hid (∀ i, InI (ix x.rest i)) := Lib.hid fun i => hre.2 i
  obtain ⟨T1, hT1⟩ : ∃ t, whysT p.names x.whys = t := ⟨_, rfl⟩
  have HTL : Hid (∀ k, (whysT p.names (x.whys.take k)).length ≤ 40000) := Lib.hid fun k => by
    have h1 := flat_len (lineX p.names) 400 (x.whys.take k) fun z hz => by
      have hzm := List.mem_of_mem_take hz
      have ha := name_len hnm (hw z hzm).1.2
      have hb := (hw z hzm).2.1.2
      have hc := (hw z hzm).2.2.2
      unfold lineX
      simp only [List.length_append, List.length_cons, List.length_nil]
      omega
    have h2 : (whysT p.names (x.whys.take k)).length ≤ 400 * (x.whys.take k).length := h1
    rw [List.length_take] at h2
    omega
  have HT1 := Lib.hid hT1
  have hal := bal (bal (Below.refl w.heap.size w) (.cells #[.int .i64 p.n, vn, vs, vr, vm] 27)) (.cells #[.slice aw x.whys.length cw, .slice ae x.rest.length ce] 30)
  have HE0 : Hid (Et w [.int .i64 p.n, vn, vs, vr, vm] [.slice aw x.whys.length cw, .slice ae x.rest.length ce] p.names vn (.slice aw x.whys.length cw) (.slice ae x.rest.length ce) x ((w.alloc (.cells #[.int .i64 p.n, vn, vs, vr, vm] 27)).alloc (.cells #[.slice aw x.whys.length cw, .slice ae x.rest.length ce] 30))) := Lib.hid
    ⟨(Blk.new w [.int .i64 p.n, vn, vs, vr, vm] 27).alloc _, Blk.new2 w _ [.slice aw x.whys.length cw, .slice ae x.rest.length ce] _, hps.names.below hal, hwh.below hal, hre.below hal, hal⟩
  clear hps hwh hre hw hr hnm hT1 hal hp0
  go_enter Tryz.func14, Tryz.ntmps14
  go_upto_region 1 with fail
  generalize (w.alloc (.cells #[.int .i64 p.n, vn, vs, vr, vm] 27)).alloc (.cells #[.slice aw x.whys.length cw, .slice ae x.rest.length ce] 30) = w2 at *
  go_wp2_with fail
  go_loopw [5, 6] (fun s i wx => Tr1 w [.int .i64 p.n, vn, vs, vr, vm] [.slice aw x.whys.length cw, .slice ae x.rest.length ce] p.names vn (.slice aw x.whys.length cw) (.slice ae x.rest.length ce) x s i wx) (fun _ i _ => x.whys.length - (intOf i).toNat)
  case atStart => exact ⟨0, Nat.zero_le _, rfl, rfl, HE0.out⟩
  case round =>
    obtain ⟨k, hk, rfl, rfl, hst⟩ := hrel
    have HS := Lib.hid hst
    have kx1 := hst.xbx.cell
    clear hst
    by_cases hlt : k < x.whys.length
    · obtain ⟨y, hy⟩ : ∃ y, ixY x.whys k = y := ⟨_, rfl⟩
      have hym : y ∈ x.whys := by rw [← hy]; exact ixY_mem0 hlt
      obtain ⟨o1, o2, o3⟩ := HOW.out y hym
      have HYI := Lib.hid (HW.out.2 y hym)
      obtain ⟨bw, off, rfl, hbw, hc0, hc1, hc2⟩ := HS.out.whs.at hlt
      rw [hy] at hc0 hc1 hc2
      have HTK : Hid (whysT p.names (x.whys.take (k + 1)) = whysT p.names (x.whys.take k) ++ lineX p.names y) := Lib.hid (by rw [takeY_succ hlt, hy, whysT_snoc])
      have HO1 := Lib.hid o1
      have HO2 := Lib.hid o2
      have HO3 := Lib.hid o3
      obtain ⟨S0, hS0⟩ : ∃ s : ByteArray, ⟨(whysT p.names (x.whys.take k)).toArray⟩ = s := ⟨_, rfl⟩
      have hsS : S0.size ≤ 40000 := by rw [← hS0]; exact HTL.out k
      rw [hS0]
      have HS0 := Lib.hid hS0
      clear o1 o2 o3 hy hym hS0
      go_upto_region 5 with fail
      have hol := HS.out.xbx.lt
      have hpl := HS.out.pbx.lt
      have kp1 := HS.out.pbx.cell
      have so : ∀ e : Ext wr, ∀ o, e.world.cell? ⟨w.heap.size + 1, o, none⟩ = _ := fun e o => (bcell e.below _ o hol).trans (kx1 o)
      have sp : ∀ e : Ext wr, ∀ o, e.world.cell? ⟨w.heap.size, o, none⟩ = _ := fun e o => (bcell e.below _ o hpl).trans (kp1 o)
      have s0 : ∀ e : Ext wr, _ := fun e => (bcell e.below bw _ hbw).trans hc0
      have s1 : ∀ e : Ext wr, _ := fun e => (bcell e.below bw _ hbw).trans hc1
      have s2 : ∀ e : Ext wr, _ := fun e => (bcell e.below bw _ hbw).trans hc2
      have hs3 : (nameX p.names y.atom).size ≤ 101 := by rw [← ByteArray.size_data, ← Array.length_toList]; exact name_len HNL.out HO1.out.2
      have hs7 : (itS y.rule).size ≤ 100 := by rw [← ByteArray.size_data, ← Array.length_toList]; exact HO2.out.2
      have hs12 : (itS y.level).size ≤ 100 := by rw [← ByteArray.size_data, ← Array.length_toList]; exact HO3.out.2
      have HNA : Hid (∀ W, Below wr.heap.size wr W → Calls Tryz.prog 52 #[.agg #[.int .i64 p.n, vn, vs, vr, vm], .int .i64 y.atom] W fun e W' => e = .returned (.string (nameX p.names y.atom)) ∧ Below W.heap.size W W') := Lib.hid fun W hW =>
        rname41_any _ p y.atom W (HP.out.below (bon HS.out.below hW)) HYI.out.1 (HO1.out.1.below (bon HS.out.below hW)) (by rw [← ByteArray.size_data, ← Array.length_toList]; exact HO1.out.2)
      have HNR : Hid (∀ W, Below wr.heap.size wr W → Calls Tryz.prog 49 #[.int .i64 y.rule] W fun e W' => e = .returned (.string (itS y.rule)) ∧ Below W.heap.size W W') := Lib.hid fun W hW => HO2.out.1 W (bon HS.out.below hW)
      have HNV : Hid (∀ W, Below wr.heap.size wr W → Calls Tryz.prog 49 #[.int .i64 y.level] W fun e W' => e = .returned (.string (itS y.level)) ∧ Below W.heap.size W W') := Lib.hid fun W hW => HO3.out.1 W (bon HS.out.below hW)
      have HLN : Hid (lineX p.names y = (nameX p.names y.atom).data.toList ++ ([32, 98, 121, 32] ++ ((itS y.rule).data.toList ++ ([32, 108, 101, 118, 101, 108, 32] ++ ((itS y.level).data.toList ++ [10]))))) := Lib.hid rfl
      generalize hg3 : nameX p.names y.atom = a3 at *
      generalize hg7 : itS y.rule = a7 at *
      generalize hg12 : itS y.level = a12 at *
      clear hg3 hg7 hg12 hc0 hc1 hc2
      refine wp_region_perm' (txR a3 a7 a12) (fun i => i == 8 || i == 17 || i == 26 || i == 28 || i == 29) (by kernel_rfl) (by kernel_rfl) (by kernel_rfl) (txR_later _ _ _) ?_
      iterate 8 (refine walkP_calm rfl rfl rfl (fun K hK => ?_); go_big_quiet_op; refine hK _ ?_; clear hK K)
      refine walkP_mem rfl rfl (fun wa hba _ => ?_) (fun v3 lo3 hi3 _ _ g3 => ?_)
      · go_simp
        exact (HNA.out wa hba).mono fun e w2 ⟨h1, h2⟩ => ⟨_, h1, h2, .inl ⟨rfl, rfl⟩⟩
      obtain rfl : v3 = .string a3 := by obtain ⟨_, h⟩ := g3; simpa [txR] using h
      simp only [Act.put, List.setIfInBounds_toArray, List.set_cons_succ, List.set_cons_zero]
      iterate 8 (refine walkP_calm rfl rfl rfl (fun K hK => ?_); go_big_quiet_op; refine hK _ ?_; clear hK K)
      refine walkP_mem rfl rfl (fun wa hba _ => ?_) (fun v7 lo7 hi7 _ _ g7 => ?_)
      · go_simp
        exact (HNR.out wa hba).mono fun e w2 ⟨h1, h2⟩ => ⟨_, h1, h2, .inr (.inl ⟨rfl, rfl⟩)⟩
      obtain rfl : v7 = .string a7 := by obtain ⟨_, h⟩ := g7; simpa [txR] using h
      simp only [Act.put, List.setIfInBounds_toArray, List.set_cons_succ, List.set_cons_zero]
      iterate 8 (refine walkP_calm rfl rfl rfl (fun K hK => ?_); go_big_quiet_op; refine hK _ ?_; clear hK K)
      refine walkP_mem rfl rfl (fun wa hba _ => ?_) (fun v12 lo12 hi12 _ _ g12 => ?_)
      · go_simp
        exact (HNV.out wa hba).mono fun e w2 ⟨h1, h2⟩ => ⟨_, h1, h2, .inr (.inr (.inl ⟨rfl, rfl⟩))⟩
      obtain rfl : v12 = .string a12 := by obtain ⟨_, h⟩ := g12; simpa [txR] using h
      simp only [Act.put, List.setIfInBounds_toArray, List.set_cons_succ, List.set_cons_zero]
      iterate 1 (refine walkP_calm rfl rfl rfl (fun K hK => ?_); go_big_quiet_op; refine hK _ ?_; clear hK K)
      refine walkP_mem rfl rfl (fun wa hba hFa => ?_) (fun v28 lo28 hi28 l28 g28 h28 => ?_)
      · go_simp
        exact ⟨bal (Below.refl _ _) _, .inr (.inr (.inr (.inl ⟨rfl, rfl, by simp, Blk.new _ _ _⟩)))⟩
      obtain ⟨_, h28⟩ := h28
      have e28 : v28 = .slice (some ⟨lo28, 0, none⟩) 1 1 := by
        rcases h28 with h | h | h | h | h
        · exact absurd h.1 (by decide)
        · exact absurd h.1 (by decide)
        · exact absurd h.1 (by decide)
        · exact h.2.1
        · exact absurd h.1 (by decide)
      subst e28
      simp only [Act.put, List.setIfInBounds_toArray, List.set_cons_succ, List.set_cons_zero]
      refine walkP_mem rfl rfl (fun wa hba hFa => ?_) (fun v29 lo29 hi29 l29 g29 h29 => ?_)
      · have hf := hFa _ (.head _) (by kernel_rfl)
        have kf : Blk wa lo28 [.int .u8 10] 5 := by
          rcases hf with h | h | h | h | h
          · exact absurd h.1 (by decide)
          · exact absurd h.1 (by decide)
          · exact absurd h.1 (by decide)
          · exact h.2.2.2
          · exact absurd h.1 (by decide)
        have kf2 := kf.cell
        have kcv := run_convert_bytes_back (P := Tryz.prog) wa 88 9 5 ⟨lo28, 0, none⟩ 1 [10] Tryz.underlying88 Tryz.underlying5 Tryz.underlying9 (fun j hj => by
          obtain rfl : j = 0 := by simp at hj; omega
          exact kf2 0)
        go_simp
        simp only [List.length_cons, List.length_nil, Nat.zero_add] at kcv
        rw [kcv]
        exact ⟨Below.refl _ _, .inr (.inr (.inr (.inr ⟨rfl, rfl⟩)))⟩
      obtain rfl : v29 = .string ⟨#[10]⟩ := by obtain ⟨_, h⟩ := h29; simpa [txR] using h
      simp only [Act.put, List.setIfInBounds_toArray, List.set_cons_succ, List.set_cons_zero]
      iterate 2 (refine walkP_calm rfl rfl rfl (fun K hK => ?_); go_big_quiet_op; refine hK _ ?_; clear hK K)
      intro wx hbx hF hI hP
      clear hF hI hP
      have HSX := Lib.hid (HS.out.on hbx)
      have HSN : Hid (S0 ++ a3 ++ ⟨#[32, 98, 121, 32]⟩ ++ a7 ++ ⟨#[32, 108, 101, 118, 101, 108, 32]⟩ ++ a12 ++ ⟨#[10]⟩ = ⟨(whysT p.names (x.whys.take (k + 1))).toArray⟩) := Lib.hid (by
        rw [HTK.out, HLN.out, ← HS0.out]
        apply ByteArray.ext
        simp [ByteArray.data_append, Array.append_assoc])
      clear hbx so sp s0 s1 s2
      go_wp2_with fail
      first
        | (go_roundw
           case rel => (exact ⟨k + 1, hlt, by go_num, by rw [← HSN.out], HSX.out⟩)
           case measure => (simp [intOf]; omega))
        | (refine ⟨?_, ?_⟩
           · (exact ⟨k + 1, hlt, by go_num, by rw [← HSN.out], HSX.out⟩)
           · (simp [intOf]; omega))
    · obtain rfl : k = x.whys.length := by omega
      rw [List.take_length, HT1.out]
      have htl : T1.length ≤ 40000 := by have := HTL.out x.whys.length; rwa [List.take_length, HT1.out] at this
      obtain ⟨wq, rfl⟩ : ∃ q : World, q = wr := ⟨_, rfl⟩
      by_cases hr0 : x.rest.length = 0
      · have hr0b : ((x.rest.length : Int) == 0) = true := by simp [hr0]
        have HF : Hid (textX p.names x = T1) := Lib.hid (by unfold textX restT; rw [if_pos hr0, List.append_nil, HT1.out])
        go_wp2_with fail
        go_ret
        exact ⟨by rw [HF.out]; rfl, HS.out.below⟩
      · have hr0b : ((x.rest.length : Int) == 0) = false := by rw [beq_eq_false_iff_ne]; omega
        have HF : Hid (textX p.names x = (T1 ++ [114, 101, 115, 116]) ++ (atomsT p.names x.rest ++ [10])) := Lib.hid (by unfold textX restT; rw [if_neg hr0, HT1.out]; simp [List.append_assoc])
        have HTA : Hid (∀ k, (atomsT p.names (x.rest.take k)).length ≤ 10200) := Lib.hid fun k => by
          have h1 := flat_len (fun a => [32] ++ (nameX p.names a).data.toList) 102 (x.rest.take k) fun a ha => by
            have := name_len HNL.out (HOR.out a (List.mem_of_mem_take ha)).2
            simp only [List.length_append, List.length_cons, List.length_nil]
            omega
          have h2 : (atomsT p.names (x.rest.take k)).length ≤ 102 * (x.rest.take k).length := h1
          rw [List.length_take] at h2
          omega
        have hsz1 : (⟨T1.toArray⟩ : ByteArray).size ≤ 40000 := htl
        obtain ⟨S1, hS1⟩ : ∃ s : ByteArray, ⟨T1.toArray⟩ = s := ⟨_, rfl⟩
        rw [hS1] at hsz1
        rw [hS1]
        have HSE : Hid ((S1 ++ ⟨#[114, 101, 115, 116]⟩ : ByteArray) = ⟨(T1 ++ [114, 101, 115, 116] ++ atomsT p.names (x.rest.take 0)).toArray⟩) := Lib.hid (by
          rw [← hS1]
          exact (ba_app T1 [114, 101, 115, 116]).trans (by simp [atomsT]))
        obtain ⟨T2, hT2⟩ : ∃ t, T1 ++ [114, 101, 115, 116] = t := ⟨_, rfl⟩
        have htl2 : T2.length ≤ 40004 := by rw [← hT2, List.length_append]; simp; omega
        rw [hT2] at HF HSE
        clear hS1 hr0 hT2
        go_wp2_with fail
        go_loopw [5, 7] (fun s i wx => Tr2 w [.int .i64 p.n, vn, vs, vr, vm] [.slice aw x.whys.length cw, .slice ae x.rest.length ce] p.names vn (.slice aw x.whys.length cw) (.slice ae x.rest.length ce) x T2 s i wx) (fun _ i _ => x.rest.length - (intOf i).toNat)
        case atStart => exact ⟨0, Nat.zero_le _, rfl, by rw [← HSE.out], HS.out⟩
        case round =>
          obtain ⟨k, hk, rfl, rfl, hst⟩ := hrel
          have HS2 := Lib.hid hst
          have kx2 := hst.xbx.cell
          clear hst kx1
          have hta := HTA.out k
          by_cases hlt : k < x.rest.length
          · obtain ⟨a, ha⟩ : ∃ a, ix x.rest k = a := ⟨_, rfl⟩
            have ham : a ∈ x.rest := by rw [← ha]; exact ix_mem hlt
            have HOA := Lib.hid (HOR.out a ham)
            have HIA : Hid (InI a) := Lib.hid (by rw [← ha]; exact HAI.out k)
            obtain ⟨br, off, rfl, hbr, hc⟩ := HS2.out.rst.at hlt
            rw [ha] at hc
            have hs3 : (nameX p.names a).size ≤ 101 := by rw [← ByteArray.size_data, ← Array.length_toList]; exact name_len HNL.out HOA.out.2
            have HTK : Hid (atomsT p.names (x.rest.take (k + 1)) = atomsT p.names (x.rest.take k) ++ ([32] ++ (nameX p.names a).data.toList)) := Lib.hid (by rw [take_ix _ _ hlt, ha, atomsT_snoc])
            obtain ⟨S2, hS2⟩ : ∃ s : ByteArray, ⟨(T2 ++ atomsT p.names (x.rest.take k)).toArray⟩ = s := ⟨_, rfl⟩
            have hsz2 : S2.size ≤ 60000 := by
              rw [← hS2]
              show (T2 ++ atomsT p.names (x.rest.take k)).length ≤ 60000
              rw [List.length_append]; omega
            rw [hS2]
            have HSN : Hid ((S2 ++ ⟨#[32]⟩ ++ nameX p.names a : ByteArray) = ⟨(T2 ++ atomsT p.names (x.rest.take (k + 1))).toArray⟩) := Lib.hid (by
              rw [HTK.out, ← hS2]
              apply ByteArray.ext
              simp [ByteArray.data_append])
            have hol := HS2.out.xbx.lt
            have hpl := HS2.out.pbx.lt
            have kp2 := HS2.out.pbx.cell
            have so : ∀ e : Ext wr, ∀ o, e.world.cell? ⟨w.heap.size + 1, o, none⟩ = _ := fun e o => (bcell e.below _ o hol).trans (kx2 o)
            have sp : ∀ e : Ext wr, ∀ o, e.world.cell? ⟨w.heap.size, o, none⟩ = _ := fun e o => (bcell e.below _ o hpl).trans (kp2 o)
            have s0 : ∀ e : Ext wr, _ := fun e => (bcell e.below br _ hbr).trans hc
            have HNA : Hid (∀ e : Ext wr, Calls Tryz.prog 52 #[.agg #[.int .i64 p.n, vn, vs, vr, vm], .int .i64 a] e.world fun x W' => x = .returned (.string (nameX p.names a)) ∧ Below e.world.heap.size e.world W') := Lib.hid fun e =>
              rname41_any _ p a e.world (HP.out.below (bon HS2.out.below e.below)) HIA.out (HOA.out.1.below (bon HS2.out.below e.below)) (by rw [← ByteArray.size_data, ← Array.length_toList]; exact HOA.out.2)
            generalize hg3 : nameX p.names a = a3 at *
            clear ha ham hS2 hg3 hc
            go_upto_region 12 with fail
            refine wp_region_ext (by kernel_rfl) (by kernel_rfl) ?_
            repeat (go_big_quiet_step ((go_at_call 52; exact Calls.ext_of (HNA.out _))))
            refine wpQuiet_nil ?_
            intro w9 hw'
            obtain ⟨e9, he9⟩ := hw'
            have hb9 := e9.below
            rw [← he9] at hb9
            clear he9 e9
            try dsimp only
            have HSX := Lib.hid (HS2.out.on hb9)
            clear hb9 so sp s0
            go_wp2_with fail
            first
              | (go_roundw
                 case rel => (exact ⟨k + 1, hlt, by go_num, by rw [← HSN.out], HSX.out⟩)
                 case measure => (simp [intOf]; omega))
              | (refine ⟨?_, ?_⟩
                 · (exact ⟨k + 1, hlt, by go_num, by rw [← HSN.out], HSX.out⟩)
                 · (simp [intOf]; omega))
          · obtain rfl : k = x.rest.length := by omega
            rw [List.take_length] at hta
            rw [List.take_length]
            obtain ⟨S2, hS2⟩ : ∃ s : ByteArray, ⟨(T2 ++ atomsT p.names x.rest).toArray⟩ = s := ⟨_, rfl⟩
            have hsz2 : S2.size ≤ 60000 := by
              rw [← hS2]
              show (T2 ++ atomsT p.names x.rest).length ≤ 60000
              rw [List.length_append]; omega
            rw [hS2]
            have HSN : Hid ((S2 ++ ⟨#[10]⟩ : ByteArray) = ⟨(textX p.names x).toArray⟩) := Lib.hid (by
              rw [HF.out, ← hS2]
              exact (ba_app _ [10]).trans (by simp))
            have kcv := conv10
            have HB9 := Lib.hid (bal HS2.out.below (.cells #[.int .u8 10] 5))
            clear hS2
            go_wp2_with fail
            go_ret
            exact ⟨by rw [← HSN.out]; rfl, HB9.out⟩
set_option maxHeartbeats 4000000 in
set_option maxRecDepth 100000 in
theorem error41_any (v vm : Value) (p : GP) (m : List Int) (w : World) (h : ProgIs w v p) (hm : Ints w vm m) :
    Calls Tryz.prog 8 #[v, vm] w fun e w' => e = .returned (.int .i64 (xE p m)) ∧ Below w.heap.size w w' := by
  have h0 := h
  obtain ⟨vn, vs, vr, vmn, rfl, hps⟩ := h
  have hal := bal (Below.refl w.heap.size w) (.cells #[.int .i64 p.n, vn, vs, vr, vmn] 27)
  have HBX := Lib.hid (Blk.new w [.int .i64 p.n, vn, vs, vr, vmn] 27)
  have HP := Lib.hid (h0.below hal)
  have HM := Lib.hid (hm.below hal)
  have HR := Lib.hid (hps.rules.below hal)
  have HAL := Lib.hid hal
  obtain ⟨am, cm, rfl, -⟩ := hm.form
  clear h0 hm hal hps
  go_enter Tryz.func8, Tryz.ntmps8
  go_upto_region 1 with fail
  have kx := HBX.out.cell
  generalize w.alloc (.cells #[.int .i64 p.n, vn, vs, vr, vmn] 27) = W at *
  obtain ⟨E, hv⟩ : ∃ E, validE p = E := ⟨_, rfl⟩
  have HV := Lib.hid hv
  by_cases h0 : E = 0
  · subst h0
    have HOK : Hid (∀ j, j < p.rules.length → BodyOk (ixR p.rules j)) := Lib.hid fun j hj => bodyOk_valid hv hj
    clear hv
    cases hs : setQ p.n m with
    | false =>
      have HS := Lib.hid hs
      have HF : Hid (xE p m = 2) := Lib.hid (by unfold xE; rw [if_neg (by simp [HV.out]), if_neg (by rw [hs]; exact Bool.false_ne_true)])
      clear hs
      go_wp2_with (first | (go_at_call 35; (with_reducible refine (set19_any _ m p.n _ (HM.out.below HB1.out)).mono ?_); rintro e w2 ⟨e2, hb2⟩; rw [inc_set, HS.out] at e2; subst e2; have kx2 := (HBX.out.below (bon HB1.out hb2)).cell; have HB2 := Lib.hid (bon HB1.out hb2); clear hb2) | (go_at_call 34; (with_reducible refine (valid_ref _ p _ HP.out).mono ?_); rintro e w1 ⟨e1, hb1⟩; rw [HV.out] at e1; subst e1; have kx1 := (HBX.out.below hb1).cell; have HB1 := Lib.hid hb1; clear hb1))
      go_ret
      exact ⟨ret_int HF.out.symm, bon HAL.out HB2.out⟩
    | true =>
      have HS := Lib.hid hs
      cases hmo : modelsB p m with
      | false =>
        have HMO : Hid ((allR p.rules.length fun j => satT (ixR p.rules j) m) = false) := Lib.hid hmo
        have HF : Hid (xE p m = 410) := Lib.hid (by unfold xE; rw [if_neg (by simp [HV.out]), if_pos hs, if_neg (by rw [hmo]; exact Bool.false_ne_true)])
        clear hs hmo
        go_wp2_with (first | (go_at_call 36; (with_reducible refine (sats19_any _ _ p.rules m _ (HR.out.below HB2.out) (HM.out.below HB2.out) HOK.out).mono ?_); rintro e w3 ⟨e3, hb3⟩; rw [HMO.out] at e3; subst e3) | (go_at_call 35; (with_reducible refine (set19_any _ m p.n _ (HM.out.below HB1.out)).mono ?_); rintro e w2 ⟨e2, hb2⟩; rw [inc_set, HS.out] at e2; subst e2; have kx2 := (HBX.out.below (bon HB1.out hb2)).cell; have HB2 := Lib.hid (bon HB1.out hb2); clear hb2) | (go_at_call 34; (with_reducible refine (valid_ref _ p _ HP.out).mono ?_); rintro e w1 ⟨e1, hb1⟩; rw [HV.out] at e1; subst e1; have kx1 := (HBX.out.below hb1).cell; have HB1 := Lib.hid hb1; clear hb1))
        go_ret
        exact ⟨ret_int HF.out.symm, bon (bon HAL.out HB2.out) hb3⟩
      | true =>
        have HMO : Hid ((allR p.rules.length fun j => satT (ixR p.rules j) m) = true) := Lib.hid hmo
        have HF : Hid (xE p m = 0) := Lib.hid (xE_of HV.out hs hmo)
        clear hs hmo
        go_wp2_with (first | (go_at_call 36; (with_reducible refine (sats19_any _ _ p.rules m _ (HR.out.below HB2.out) (HM.out.below HB2.out) HOK.out).mono ?_); rintro e w3 ⟨e3, hb3⟩; rw [HMO.out] at e3; subst e3) | (go_at_call 35; (with_reducible refine (set19_any _ m p.n _ (HM.out.below HB1.out)).mono ?_); rintro e w2 ⟨e2, hb2⟩; rw [inc_set, HS.out] at e2; subst e2; have kx2 := (HBX.out.below (bon HB1.out hb2)).cell; have HB2 := Lib.hid (bon HB1.out hb2); clear hb2) | (go_at_call 34; (with_reducible refine (valid_ref _ p _ HP.out).mono ?_); rintro e w1 ⟨e1, hb1⟩; rw [HV.out] at e1; subst e1; have kx1 := (HBX.out.below hb1).cell; have HB1 := Lib.hid hb1; clear hb1))
        go_ret
        exact ⟨ret_int HF.out.symm, bon (bon HAL.out HB2.out) hb3⟩
  · have HF : Hid (xE p m = E) := Lib.hid (by unfold xE; rw [if_pos (by rw [hv]; exact h0), hv])
    have h0b : (E != 0) = true := by simp [h0]
    clear hv h0
    go_wp2_with (go_at_call 34; (with_reducible refine (valid_ref _ p _ HP.out).mono ?_); rintro e w1 ⟨e1, hb1⟩; rw [HV.out] at e1; subst e1; have kx1 := (HBX.out.below hb1).cell; have HB1 := Lib.hid hb1; clear hb1)
    go_ret
    exact ⟨ret_int HF.out.symm, bon HAL.out HB1.out⟩
def inM (s m : List Int) : List Int := s.filter fun x => decide (x ∈ m)
theorem inM_same {s m : List Int} (h : ∀ x ∈ s, x ∈ m) (x : Int) : x ∈ inM s m ↔ x ∈ s := by
  unfold inM
  simp only [List.mem_filter, decide_eq_true_eq]
  exact ⟨fun h => h.1, fun hx => ⟨hx, h x hx⟩⟩
theorem hlS_neg {s m : List Int} {x : Int} (h : x < 0) : hlT (inM s m) m x = litT m x := by
  unfold hlT litT
  rw [if_neg (by omega), if_neg (by omega)]
theorem hlS_pos {s m : List Int} {x : Int} (h : 0 < x) : hlT (inM s m) m x = (litT m x && decide (x ∈ s)) := by
  unfold hlT litT inM
  rw [if_pos h, if_pos h, Bool.eq_iff_iff]
  simp only [List.mem_filter, decide_eq_true_eq, Bool.and_eq_true]
  exact And.comm
def DhRel (r : GR) (m : List Int) (a : Int) (i : Value) : Prop := ∃ k : Nat, k ≤ r.head.length ∧ i = .int .i64 k ∧ (r.choice = false → ∀ j, j < k → (decide (ix r.head j ≠ a) && decide (ix r.head j ∈ m)) = false)
def DbF (T m : List Int) (r : GR) (s i : Value) : Prop := ∃ k : Nat, k ≤ r.body.length ∧ i = .int .i64 k ∧ s = .int .i64 0 ∧ (∀ j, j < k → hlT T m (ix r.body j) = true)
def DbT (T m : List Int) (r : GR) (s i : Value) : Prop := ∃ k : Nat, k ≤ r.body.length ∧ i = .int .i64 k ∧ s = .int .i64 (avW T m r k)
set_option maxHeartbeats 8000000 in
set_option maxRecDepth 100000 in
theorem derives41_any (vr vm vs : Value) (r : GR) (m s : List Int) (a : Int) (w : World) (hr : RuleIs w vr r) (hm : Ints w vm m) (hs : Ints w vs s) (hok : DvOk r) :
    Calls Tryz.prog 54 #[vr, vm, .int .i64 a, vs] w fun e w' => e = .returned (.bool (derT (inM s m) m r a)) ∧ Below w.heap.size w w' := by
  obtain ⟨vh, vb, vw, rfl, hsl⟩ := hr
  have hal := bal (Below.refl w.heap.size w) (.cells #[.bool r.choice, vh, .bool r.sum, .int .i64 r.bound, vb, vw] 64)
  obtain ⟨a1, c1, rfl, -, hl1, -, -⟩ := hsl.head.form
  obtain ⟨a2, c2, rfl, -, hl2, -, -⟩ := hsl.body.form
  obtain ⟨a3, c3, rfl, -, hl3, -, -⟩ := hsl.wts.form
  obtain ⟨am, cm, rfl, -⟩ := id hm.form
  obtain ⟨as1, cs1, rfl, -⟩ := id hs.form
  have hbd := hsl.bound
  unfold InI at hbd
  have HH0 := Lib.hid (hsl.head.below hal)
  have HB := Lib.hid (hsl.body.below hal)
  have HW := Lib.hid (hsl.wts.below hal)
  have HM := Lib.hid (hm.below hal)
  have HSI := Lib.hid (hs.below hal)
  have HBX := Lib.hid (Blk.new w [.bool r.choice, .slice a1 r.head.length c1, .bool r.sum, .int .i64 r.bound, .slice a2 r.body.length c2, .slice a3 r.w.length c3] 64)
  have HAL := Lib.hid hal
  have HNZ := Lib.hid hok.nz
  have HLT : Hid (∀ j, j < r.body.length → -9223372036854775808 < ix r.body j ∧ ix r.body j ≤ 9223372036854775807) := Lib.hid (fun j hj => ⟨hok.ok.lit j hj, (hsl.body.2 j).2⟩)
  have hlen := hok.ok.len
  have HOKB := Lib.hid hok.ok
  have HBD : Hid (r.sum = false → r.bound ≤ 0) := Lib.hid hok.bd
  clear hsl hm hs hok hal
  go_enter Tryz.func54, Tryz.ntmps54
  go_upto_region 1 with fail
  have kx := HBX.out.cell
  generalize w.alloc (.cells #[.bool r.choice, .slice a1 r.head.length c1, .bool r.sum, .int .i64 r.bound, .slice a2 r.body.length c2, .slice a3 r.w.length c3] 64) = W at *
  by_cases hd : a ∈ r.head
  case neg =>
    have HHD : Hid (decide (a ∈ r.head) = false) := Lib.hid (decide_eq_false hd)
    have HF : Hid (derT (inM s m) m r a = false) := Lib.hid (by unfold derT; rw [decide_eq_false hd, Bool.false_and])
    clear hd
    go_wp2_with (go_at_call 53; (with_reducible refine (in17_call HHD.out HH0.out).mono ?_); rintro e w2 ⟨rfl, rfl⟩)
    go_ret
    exact ⟨ret_bool HF.out.symm, HAL.out⟩
  have HHD : Hid (decide (a ∈ r.head) = true) := Lib.hid (decide_eq_true hd)
  clear hd
  go_wp2_with (go_at_call 53; (with_reducible refine (in17_call HHD.out HH0.out).mono ?_); rintro e w2 ⟨rfl, rfl⟩)
  cases hc : r.choice with
  | true =>
    have HF : Hid (derT (inM s m) m r a = avT (inM s m) m r) := Lib.hid (by unfold derT soleB; rw [HHD.out, hc, Bool.true_or, Bool.true_and, Bool.true_and])
    rw [hc] at kx
    clear hc
    go_loop [9] (fun i => ∃ k : Nat, k ≤ r.head.length ∧ i = .int .i64 k) (fun i => r.head.length - (intOf i).toNat)
    case atStart => exact ⟨0, Nat.zero_le _, rfl⟩
    case round =>
      obtain ⟨k0, hk0, rfl⟩ := hrel
      by_cases hlt0 : k0 < r.head.length
      · go_wp2
        first
          | (go_round
             case rel => (exact ⟨k0 + 1, by omega, by go_num⟩)
             case measure => (simp [intOf]; omega))
          | (refine ⟨?_, ?_⟩
             · (exact ⟨k0 + 1, by omega, by go_num⟩)
             · (simp [intOf]; omega))
      · obtain rfl : k0 = r.head.length := by omega
        cases hs : r.sum with
        | false =>
          have HSUM := Lib.hid hs
          have hb0 := HBD.out hs
          rw [hs] at kx
          clear hs
          go_wp2
          go_loop [10, 11] (fun q i => DbF (inM s m) m r q i) (fun _ i => r.body.length - (intOf i).toNat)
          case atStart => exact ⟨0, Nat.zero_le _, rfl, rfl, fun j hj => absurd hj (Nat.not_lt_zero _)⟩
          case round =>
            obtain ⟨k, hk, rfl, rfl, hall⟩ := hrel
            have HA := Lib.hid hall
            clear hall
            by_cases hlt : k < r.body.length
            · obtain ⟨b1, o1, rfl, hb1, hc1⟩ := HB.out.at hlt
              have HLK := Lib.hid (HLT.out k hlt)
              have hnz := HNZ.out k hlt
              cases hli : litT m (ix r.body k) with
              | false =>
                have HH : Hid (hlT (inM s m) m (ix r.body k) = false) := Lib.hid (by
                  by_cases hn : ix r.body k < 0
                  · rw [hlS_neg hn, hli]
                  · rw [hlS_pos (by omega), hli]; rfl)
                have HLI := Lib.hid hli
                clear hli
                go_wp2_with (first | (go_at_call 53; (with_reducible refine (in17_call HIS.out HSI.out).mono ?_); rintro e w2 ⟨rfl, rfl⟩) | (go_at_call 58; (with_reducible refine (true19_call HLI.out HM.out HLK.out).mono ?_); rintro e w1 ⟨rfl, rfl⟩))
                go_ret
                exact ⟨ret_bool (HF.out.trans (by unfold avT; rw [HSUM.out, if_neg Bool.false_ne_true]; exact allR_false k hlt HH.out)).symm, HAL.out⟩
              | true =>
                by_cases hn : ix r.body k < 0
                · have hnd := decide_eq_true hn
                  have HH : Hid (hlT (inM s m) m (ix r.body k) = true) := Lib.hid (by rw [hlS_neg hn, hli])
                  have HLI := Lib.hid hli
                  clear hli
                  have HA2 : Hid (∀ j, j < k + 1 → hlT (inM s m) m (ix r.body j) = true) := Lib.hid fun j hj => (if e : j = k then e ▸ HH.out else HA.out j (by omega))
                  go_wp2_with (first | (go_at_call 53; (with_reducible refine (in17_call HIS.out HSI.out).mono ?_); rintro e w2 ⟨rfl, rfl⟩) | (go_at_call 58; (with_reducible refine (true19_call HLI.out HM.out HLK.out).mono ?_); rintro e w1 ⟨rfl, rfl⟩))
                  first
                    | (go_round
                       case rel => (exact ⟨k + 1, by omega, by go_num, rfl, HA2.out⟩)
                       case measure => (simp [intOf]; omega))
                    | (refine ⟨?_, ?_⟩
                       · (exact ⟨k + 1, by omega, by go_num, rfl, HA2.out⟩)
                       · (simp [intOf]; omega))
                · have hnd := decide_eq_false hn
                  cases his : decide (ix r.body k ∈ s) with
                  | true =>
                    have HH : Hid (hlT (inM s m) m (ix r.body k) = true) := Lib.hid (by rw [hlS_pos (by omega), hli, his]; rfl)
                    have HLI := Lib.hid hli
                    have HIS := Lib.hid his
                    clear hli his
                    have HA2 : Hid (∀ j, j < k + 1 → hlT (inM s m) m (ix r.body j) = true) := Lib.hid fun j hj => (if e : j = k then e ▸ HH.out else HA.out j (by omega))
                    go_wp2_with (first | (go_at_call 53; (with_reducible refine (in17_call HIS.out HSI.out).mono ?_); rintro e w2 ⟨rfl, rfl⟩) | (go_at_call 58; (with_reducible refine (true19_call HLI.out HM.out HLK.out).mono ?_); rintro e w1 ⟨rfl, rfl⟩))
                    first
                      | (go_round
                         case rel => (exact ⟨k + 1, by omega, by go_num, rfl, HA2.out⟩)
                         case measure => (simp [intOf]; omega))
                      | (refine ⟨?_, ?_⟩
                         · (exact ⟨k + 1, by omega, by go_num, rfl, HA2.out⟩)
                         · (simp [intOf]; omega))
                  | false =>
                    have HH : Hid (hlT (inM s m) m (ix r.body k) = false) := Lib.hid (by rw [hlS_pos (by omega), hli, his]; rfl)
                    have HLI := Lib.hid hli
                    have HIS := Lib.hid his
                    clear hli his
                    go_wp2_with (first | (go_at_call 53; (with_reducible refine (in17_call HIS.out HSI.out).mono ?_); rintro e w2 ⟨rfl, rfl⟩) | (go_at_call 58; (with_reducible refine (true19_call HLI.out HM.out HLK.out).mono ?_); rintro e w1 ⟨rfl, rfl⟩))
                    go_ret
                    exact ⟨ret_bool (HF.out.trans (by unfold avT; rw [HSUM.out, if_neg Bool.false_ne_true]; exact allR_false k hlt HH.out)).symm, HAL.out⟩
            · obtain rfl : k = r.body.length := by omega
              have HZ : Hid (derT (inM s m) m r a = true) := Lib.hid (HF.out.trans (by unfold avT; rw [HSUM.out, if_neg Bool.false_ne_true]; exact allR_true HA.out))
              go_wp2
              go_ret
              exact ⟨ret_bool HZ.out.symm, HAL.out⟩
        | true =>
          have HSUM := Lib.hid hs
          have HWB : Hid (∀ k, k ≤ r.body.length → 0 ≤ avW (inM s m) m r k ∧ avW (inM s m) m r k ≤ 1048576 * k) := Lib.hid fun k hk => avW_bound HOKB.out hs k hk
          have HWL := Lib.hid (HOKB.out.wlen hs)
          have HWV := Lib.hid (HOKB.out.w hs)
          rw [hs] at kx
          clear hs
          go_wp2
          go_loop [10, 11] (fun q i => DbT (inM s m) m r q i) (fun _ i => r.body.length - (intOf i).toNat)
          case atStart => exact ⟨0, Nat.zero_le _, rfl, rfl⟩
          case round =>
            obtain ⟨k, hk, rfl, rfl⟩ := hrel
            have hwb := HWB.out k hk
            by_cases hlt : k < r.body.length
            · obtain ⟨b1, o1, rfl, hb1, hc1⟩ := HB.out.at hlt
              have hltw : k < r.w.length := by have := HWL.out; omega
              obtain ⟨b2, o2, rfl, hb2, hc2⟩ := HW.out.at hltw
              have hwk := HWV.out k hltw
              have HLK := Lib.hid (HLT.out k hlt)
              have hnz := HNZ.out k hlt
              cases hli : litT m (ix r.body k) with
              | false =>
                have HH : Hid (hlT (inM s m) m (ix r.body k) = false) := Lib.hid (by
                  by_cases hn : ix r.body k < 0
                  · rw [hlS_neg hn, hli]
                  · rw [hlS_pos (by omega), hli]; rfl)
                have HLI := Lib.hid hli
                clear hli
                have HQ2 : Hid (avW (inM s m) m r (k + 1) = avW (inM s m) m r k) := Lib.hid (by rw [avW, HH.out, if_neg Bool.false_ne_true, Int.add_zero])
                go_wp2_with (first | (go_at_call 53; (with_reducible refine (in17_call HIS.out HSI.out).mono ?_); rintro e w2 ⟨rfl, rfl⟩) | (go_at_call 58; (with_reducible refine (true19_call HLI.out HM.out HLK.out).mono ?_); rintro e w1 ⟨rfl, rfl⟩))
                first
                  | (go_round
                     case rel => (exact ⟨k + 1, by omega, by go_num, by rw [HQ2.out]⟩)
                     case measure => (simp [intOf]; omega))
                  | (refine ⟨?_, ?_⟩
                     · (exact ⟨k + 1, by omega, by go_num, by rw [HQ2.out]⟩)
                     · (simp [intOf]; omega))
              | true =>
                by_cases hn : ix r.body k < 0
                · have hnd := decide_eq_true hn
                  have HH : Hid (hlT (inM s m) m (ix r.body k) = true) := Lib.hid (by rw [hlS_neg hn, hli])
                  have HLI := Lib.hid hli
                  clear hli
                  have HQ2 : Hid (avW (inM s m) m r (k + 1) = avW (inM s m) m r k + ix r.w k) := Lib.hid (by rw [avW, HH.out, if_pos rfl])
                  go_wp2_with (first | (go_at_call 53; (with_reducible refine (in17_call HIS.out HSI.out).mono ?_); rintro e w2 ⟨rfl, rfl⟩) | (go_at_call 58; (with_reducible refine (true19_call HLI.out HM.out HLK.out).mono ?_); rintro e w1 ⟨rfl, rfl⟩))
                  first
                    | (go_round
                       case rel => (exact ⟨k + 1, by omega, by go_num, by rw [HQ2.out]⟩)
                       case measure => (simp [intOf]; omega))
                    | (refine ⟨?_, ?_⟩
                       · (exact ⟨k + 1, by omega, by go_num, by rw [HQ2.out]⟩)
                       · (simp [intOf]; omega))
                · have hnd := decide_eq_false hn
                  cases his : decide (ix r.body k ∈ s) with
                  | true =>
                    have HH : Hid (hlT (inM s m) m (ix r.body k) = true) := Lib.hid (by rw [hlS_pos (by omega), hli, his]; rfl)
                    have HLI := Lib.hid hli
                    have HIS := Lib.hid his
                    clear hli his
                    have HQ2 : Hid (avW (inM s m) m r (k + 1) = avW (inM s m) m r k + ix r.w k) := Lib.hid (by rw [avW, HH.out, if_pos rfl])
                    go_wp2_with (first | (go_at_call 53; (with_reducible refine (in17_call HIS.out HSI.out).mono ?_); rintro e w2 ⟨rfl, rfl⟩) | (go_at_call 58; (with_reducible refine (true19_call HLI.out HM.out HLK.out).mono ?_); rintro e w1 ⟨rfl, rfl⟩))
                    first
                      | (go_round
                         case rel => (exact ⟨k + 1, by omega, by go_num, by rw [HQ2.out]⟩)
                         case measure => (simp [intOf]; omega))
                      | (refine ⟨?_, ?_⟩
                         · (exact ⟨k + 1, by omega, by go_num, by rw [HQ2.out]⟩)
                         · (simp [intOf]; omega))
                  | false =>
                    have HH : Hid (hlT (inM s m) m (ix r.body k) = false) := Lib.hid (by rw [hlS_pos (by omega), hli, his]; rfl)
                    have HLI := Lib.hid hli
                    have HIS := Lib.hid his
                    clear hli his
                    have HQ2 : Hid (avW (inM s m) m r (k + 1) = avW (inM s m) m r k) := Lib.hid (by rw [avW, HH.out, if_neg Bool.false_ne_true, Int.add_zero])
                    go_wp2_with (first | (go_at_call 53; (with_reducible refine (in17_call HIS.out HSI.out).mono ?_); rintro e w2 ⟨rfl, rfl⟩) | (go_at_call 58; (with_reducible refine (true19_call HLI.out HM.out HLK.out).mono ?_); rintro e w1 ⟨rfl, rfl⟩))
                    first
                      | (go_round
                         case rel => (exact ⟨k + 1, by omega, by go_num, by rw [HQ2.out]⟩)
                         case measure => (simp [intOf]; omega))
                      | (refine ⟨?_, ?_⟩
                         · (exact ⟨k + 1, by omega, by go_num, by rw [HQ2.out]⟩)
                         · (simp [intOf]; omega))
            · obtain rfl : k = r.body.length := by omega
              have HZ : Hid (derT (inM s m) m r a = decide (r.bound ≤ avW (inM s m) m r r.body.length)) := Lib.hid (HF.out.trans (by unfold avT; rw [HSUM.out, if_pos rfl]))
              go_wp2
              go_ret
              exact ⟨ret_bool HZ.out.symm, HAL.out⟩
  | false =>
    rw [hc] at kx
    have HCH := Lib.hid hc
    clear hc
    go_loop [9] (fun i => DhRel r m a i) (fun i => r.head.length - (intOf i).toNat)
    case atStart => exact ⟨0, Nat.zero_le _, rfl, fun _ j hj => absurd hj (Nat.not_lt_zero _)⟩
    case round =>
      obtain ⟨k0, hk0, rfl, hall0⟩ := hrel
      have HA0 := Lib.hid (hall0 HCH.out)
      clear hall0
      by_cases hlt0 : k0 < r.head.length
      · obtain ⟨b1, o1, rfl, hb1, hc1⟩ := HH0.out.at hlt0
        by_cases he : ix r.head k0 = a
        · have heb : (ix r.head k0 != a) = false := by simp [he]
          have HN : Hid (∀ j, j < k0 + 1 → (decide (ix r.head j ≠ a) && decide (ix r.head j ∈ m)) = false) := Lib.hid fun j hj => by
            rcases Nat.lt_succ_iff_lt_or_eq.1 hj with h1 | rfl
            · exact HA0.out j h1
            · simp [he]
          clear he
          go_wp2
          first
            | (go_round
               case rel => (exact ⟨k0 + 1, by omega, by go_num, fun _ => HN.out⟩)
               case measure => (simp [intOf]; omega))
            | (refine ⟨?_, ?_⟩
               · (exact ⟨k0 + 1, by omega, by go_num, fun _ => HN.out⟩)
               · (simp [intOf]; omega))
        · have heb : (ix r.head k0 != a) = true := by simp [he]
          cases hin : decide (ix r.head k0 ∈ m) with
          | true =>
            have HIN := Lib.hid hin
            have HF : Hid (derT (inM s m) m r a = false) := Lib.hid (by
              unfold derT soleB
              rw [HCH.out, anyR_true (f := fun j => decide (ix r.head j ≠ a) && decide (ix r.head j ∈ m)) k0 hlt0 (by rw [decide_eq_true he, hin]; rfl)]
              simp)
            clear hin he
            go_wp2_with (go_at_call 53; (with_reducible refine (in17_call HIN.out HM.out).mono ?_); rintro e w3 ⟨rfl, rfl⟩)
            go_ret
            exact ⟨ret_bool HF.out.symm, HAL.out⟩
          | false =>
            have HIN := Lib.hid hin
            have HN : Hid (∀ j, j < k0 + 1 → (decide (ix r.head j ≠ a) && decide (ix r.head j ∈ m)) = false) := Lib.hid fun j hj => by
              rcases Nat.lt_succ_iff_lt_or_eq.1 hj with h1 | rfl
              · exact HA0.out j h1
              · rw [hin, Bool.and_false]
            clear hin he
            go_wp2_with (go_at_call 53; (with_reducible refine (in17_call HIN.out HM.out).mono ?_); rintro e w3 ⟨rfl, rfl⟩)
            first
              | (go_round
                 case rel => (exact ⟨k0 + 1, by omega, by go_num, fun _ => HN.out⟩)
                 case measure => (simp [intOf]; omega))
              | (refine ⟨?_, ?_⟩
                 · (exact ⟨k0 + 1, by omega, by go_num, fun _ => HN.out⟩)
                 · (simp [intOf]; omega))
      · obtain rfl : k0 = r.head.length := by omega
        have HF : Hid (derT (inM s m) m r a = avT (inM s m) m r) := Lib.hid (by
          unfold derT soleB
          rw [HHD.out, HCH.out, anyR_false (f := fun j => decide (ix r.head j ≠ a) && decide (ix r.head j ∈ m)) HA0.out]; rfl)
        cases hs : r.sum with
        | false =>
          have HSUM := Lib.hid hs
          have hb0 := HBD.out hs
          rw [hs] at kx
          clear hs
          go_wp2
          go_loop [10, 11] (fun q i => DbF (inM s m) m r q i) (fun _ i => r.body.length - (intOf i).toNat)
          case atStart => exact ⟨0, Nat.zero_le _, rfl, rfl, fun j hj => absurd hj (Nat.not_lt_zero _)⟩
          case round =>
            obtain ⟨k, hk, rfl, rfl, hall⟩ := hrel
            have HA := Lib.hid hall
            clear hall
            by_cases hlt : k < r.body.length
            · obtain ⟨b1, o1, rfl, hb1, hc1⟩ := HB.out.at hlt
              have HLK := Lib.hid (HLT.out k hlt)
              have hnz := HNZ.out k hlt
              cases hli : litT m (ix r.body k) with
              | false =>
                have HH : Hid (hlT (inM s m) m (ix r.body k) = false) := Lib.hid (by
                  by_cases hn : ix r.body k < 0
                  · rw [hlS_neg hn, hli]
                  · rw [hlS_pos (by omega), hli]; rfl)
                have HLI := Lib.hid hli
                clear hli
                go_wp2_with (first | (go_at_call 53; (with_reducible refine (in17_call HIS.out HSI.out).mono ?_); rintro e w2 ⟨rfl, rfl⟩) | (go_at_call 58; (with_reducible refine (true19_call HLI.out HM.out HLK.out).mono ?_); rintro e w1 ⟨rfl, rfl⟩))
                go_ret
                exact ⟨ret_bool (HF.out.trans (by unfold avT; rw [HSUM.out, if_neg Bool.false_ne_true]; exact allR_false k hlt HH.out)).symm, HAL.out⟩
              | true =>
                by_cases hn : ix r.body k < 0
                · have hnd := decide_eq_true hn
                  have HH : Hid (hlT (inM s m) m (ix r.body k) = true) := Lib.hid (by rw [hlS_neg hn, hli])
                  have HLI := Lib.hid hli
                  clear hli
                  have HA2 : Hid (∀ j, j < k + 1 → hlT (inM s m) m (ix r.body j) = true) := Lib.hid fun j hj => (if e : j = k then e ▸ HH.out else HA.out j (by omega))
                  go_wp2_with (first | (go_at_call 53; (with_reducible refine (in17_call HIS.out HSI.out).mono ?_); rintro e w2 ⟨rfl, rfl⟩) | (go_at_call 58; (with_reducible refine (true19_call HLI.out HM.out HLK.out).mono ?_); rintro e w1 ⟨rfl, rfl⟩))
                  first
                    | (go_round
                       case rel => (exact ⟨k + 1, by omega, by go_num, rfl, HA2.out⟩)
                       case measure => (simp [intOf]; omega))
                    | (refine ⟨?_, ?_⟩
                       · (exact ⟨k + 1, by omega, by go_num, rfl, HA2.out⟩)
                       · (simp [intOf]; omega))
                · have hnd := decide_eq_false hn
                  cases his : decide (ix r.body k ∈ s) with
                  | true =>
                    have HH : Hid (hlT (inM s m) m (ix r.body k) = true) := Lib.hid (by rw [hlS_pos (by omega), hli, his]; rfl)
                    have HLI := Lib.hid hli
                    have HIS := Lib.hid his
                    clear hli his
                    have HA2 : Hid (∀ j, j < k + 1 → hlT (inM s m) m (ix r.body j) = true) := Lib.hid fun j hj => (if e : j = k then e ▸ HH.out else HA.out j (by omega))
                    go_wp2_with (first | (go_at_call 53; (with_reducible refine (in17_call HIS.out HSI.out).mono ?_); rintro e w2 ⟨rfl, rfl⟩) | (go_at_call 58; (with_reducible refine (true19_call HLI.out HM.out HLK.out).mono ?_); rintro e w1 ⟨rfl, rfl⟩))
                    first
                      | (go_round
                         case rel => (exact ⟨k + 1, by omega, by go_num, rfl, HA2.out⟩)
                         case measure => (simp [intOf]; omega))
                      | (refine ⟨?_, ?_⟩
                         · (exact ⟨k + 1, by omega, by go_num, rfl, HA2.out⟩)
                         · (simp [intOf]; omega))
                  | false =>
                    have HH : Hid (hlT (inM s m) m (ix r.body k) = false) := Lib.hid (by rw [hlS_pos (by omega), hli, his]; rfl)
                    have HLI := Lib.hid hli
                    have HIS := Lib.hid his
                    clear hli his
                    go_wp2_with (first | (go_at_call 53; (with_reducible refine (in17_call HIS.out HSI.out).mono ?_); rintro e w2 ⟨rfl, rfl⟩) | (go_at_call 58; (with_reducible refine (true19_call HLI.out HM.out HLK.out).mono ?_); rintro e w1 ⟨rfl, rfl⟩))
                    go_ret
                    exact ⟨ret_bool (HF.out.trans (by unfold avT; rw [HSUM.out, if_neg Bool.false_ne_true]; exact allR_false k hlt HH.out)).symm, HAL.out⟩
            · obtain rfl : k = r.body.length := by omega
              have HZ : Hid (derT (inM s m) m r a = true) := Lib.hid (HF.out.trans (by unfold avT; rw [HSUM.out, if_neg Bool.false_ne_true]; exact allR_true HA.out))
              go_wp2
              go_ret
              exact ⟨ret_bool HZ.out.symm, HAL.out⟩
        | true =>
          have HSUM := Lib.hid hs
          have HWB : Hid (∀ k, k ≤ r.body.length → 0 ≤ avW (inM s m) m r k ∧ avW (inM s m) m r k ≤ 1048576 * k) := Lib.hid fun k hk => avW_bound HOKB.out hs k hk
          have HWL := Lib.hid (HOKB.out.wlen hs)
          have HWV := Lib.hid (HOKB.out.w hs)
          rw [hs] at kx
          clear hs
          go_wp2
          go_loop [10, 11] (fun q i => DbT (inM s m) m r q i) (fun _ i => r.body.length - (intOf i).toNat)
          case atStart => exact ⟨0, Nat.zero_le _, rfl, rfl⟩
          case round =>
            obtain ⟨k, hk, rfl, rfl⟩ := hrel
            have hwb := HWB.out k hk
            by_cases hlt : k < r.body.length
            · obtain ⟨b1, o1, rfl, hb1, hc1⟩ := HB.out.at hlt
              have hltw : k < r.w.length := by have := HWL.out; omega
              obtain ⟨b2, o2, rfl, hb2, hc2⟩ := HW.out.at hltw
              have hwk := HWV.out k hltw
              have HLK := Lib.hid (HLT.out k hlt)
              have hnz := HNZ.out k hlt
              cases hli : litT m (ix r.body k) with
              | false =>
                have HH : Hid (hlT (inM s m) m (ix r.body k) = false) := Lib.hid (by
                  by_cases hn : ix r.body k < 0
                  · rw [hlS_neg hn, hli]
                  · rw [hlS_pos (by omega), hli]; rfl)
                have HLI := Lib.hid hli
                clear hli
                have HQ2 : Hid (avW (inM s m) m r (k + 1) = avW (inM s m) m r k) := Lib.hid (by rw [avW, HH.out, if_neg Bool.false_ne_true, Int.add_zero])
                go_wp2_with (first | (go_at_call 53; (with_reducible refine (in17_call HIS.out HSI.out).mono ?_); rintro e w2 ⟨rfl, rfl⟩) | (go_at_call 58; (with_reducible refine (true19_call HLI.out HM.out HLK.out).mono ?_); rintro e w1 ⟨rfl, rfl⟩))
                first
                  | (go_round
                     case rel => (exact ⟨k + 1, by omega, by go_num, by rw [HQ2.out]⟩)
                     case measure => (simp [intOf]; omega))
                  | (refine ⟨?_, ?_⟩
                     · (exact ⟨k + 1, by omega, by go_num, by rw [HQ2.out]⟩)
                     · (simp [intOf]; omega))
              | true =>
                by_cases hn : ix r.body k < 0
                · have hnd := decide_eq_true hn
                  have HH : Hid (hlT (inM s m) m (ix r.body k) = true) := Lib.hid (by rw [hlS_neg hn, hli])
                  have HLI := Lib.hid hli
                  clear hli
                  have HQ2 : Hid (avW (inM s m) m r (k + 1) = avW (inM s m) m r k + ix r.w k) := Lib.hid (by rw [avW, HH.out, if_pos rfl])
                  go_wp2_with (first | (go_at_call 53; (with_reducible refine (in17_call HIS.out HSI.out).mono ?_); rintro e w2 ⟨rfl, rfl⟩) | (go_at_call 58; (with_reducible refine (true19_call HLI.out HM.out HLK.out).mono ?_); rintro e w1 ⟨rfl, rfl⟩))
                  first
                    | (go_round
                       case rel => (exact ⟨k + 1, by omega, by go_num, by rw [HQ2.out]⟩)
                       case measure => (simp [intOf]; omega))
                    | (refine ⟨?_, ?_⟩
                       · (exact ⟨k + 1, by omega, by go_num, by rw [HQ2.out]⟩)
                       · (simp [intOf]; omega))
                · have hnd := decide_eq_false hn
                  cases his : decide (ix r.body k ∈ s) with
                  | true =>
                    have HH : Hid (hlT (inM s m) m (ix r.body k) = true) := Lib.hid (by rw [hlS_pos (by omega), hli, his]; rfl)
                    have HLI := Lib.hid hli
                    have HIS := Lib.hid his
                    clear hli his
                    have HQ2 : Hid (avW (inM s m) m r (k + 1) = avW (inM s m) m r k + ix r.w k) := Lib.hid (by rw [avW, HH.out, if_pos rfl])
                    go_wp2_with (first | (go_at_call 53; (with_reducible refine (in17_call HIS.out HSI.out).mono ?_); rintro e w2 ⟨rfl, rfl⟩) | (go_at_call 58; (with_reducible refine (true19_call HLI.out HM.out HLK.out).mono ?_); rintro e w1 ⟨rfl, rfl⟩))
                    first
                      | (go_round
                         case rel => (exact ⟨k + 1, by omega, by go_num, by rw [HQ2.out]⟩)
                         case measure => (simp [intOf]; omega))
                      | (refine ⟨?_, ?_⟩
                         · (exact ⟨k + 1, by omega, by go_num, by rw [HQ2.out]⟩)
                         · (simp [intOf]; omega))
                  | false =>
                    have HH : Hid (hlT (inM s m) m (ix r.body k) = false) := Lib.hid (by rw [hlS_pos (by omega), hli, his]; rfl)
                    have HLI := Lib.hid hli
                    have HIS := Lib.hid his
                    clear hli his
                    have HQ2 : Hid (avW (inM s m) m r (k + 1) = avW (inM s m) m r k) := Lib.hid (by rw [avW, HH.out, if_neg Bool.false_ne_true, Int.add_zero])
                    go_wp2_with (first | (go_at_call 53; (with_reducible refine (in17_call HIS.out HSI.out).mono ?_); rintro e w2 ⟨rfl, rfl⟩) | (go_at_call 58; (with_reducible refine (true19_call HLI.out HM.out HLK.out).mono ?_); rintro e w1 ⟨rfl, rfl⟩))
                    first
                      | (go_round
                         case rel => (exact ⟨k + 1, by omega, by go_num, by rw [HQ2.out]⟩)
                         case measure => (simp [intOf]; omega))
                      | (refine ⟨?_, ?_⟩
                         · (exact ⟨k + 1, by omega, by go_num, by rw [HQ2.out]⟩)
                         · (simp [intOf]; omega))
            · obtain rfl : k = r.body.length := by omega
              have HZ : Hid (derT (inM s m) m r a = decide (r.bound ≤ avW (inM s m) m r r.body.length)) := Lib.hid (HF.out.trans (by unfold avT; rw [HSUM.out, if_pos rfl]))
              go_wp2
              go_ret
              exact ⟨ret_bool HZ.out.symm, HAL.out⟩
theorem derives41_call {vr vm vs : Value} {r : GR} {m s : List Int} {a : Int} {b : Bool} {w : World} (hb : derT (inM s m) m r a = b) (hr : RuleIs w vr r) (hm : Ints w vm m) (hs : Ints w vs s) (hok : DvOk r) :
    Calls Tryz.prog 54 #[vr, vm, .int .i64 a, vs] w fun e w' => e = .returned (.bool b) ∧ Below w.heap.size w w' := by
  have := derives41_any vr vm vs r m s a w hr hm hs hok
  rwa [hb] at this
end Go.Proofs.YtgakoainjgjimaaGreatDoor
