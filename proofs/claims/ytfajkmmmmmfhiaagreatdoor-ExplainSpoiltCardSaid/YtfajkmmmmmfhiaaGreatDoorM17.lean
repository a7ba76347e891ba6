/- My texts Tx7, Bw41, Open, merged. -/
import Derived.Test.YtfajkmmmmmfhiaaGreatDoorM16
import Derived.Test.YtfajkmmmmmfhiaaGreatDoorM14
import Derived.Test.YtfajkmmmmmfhiaaGreatDoorM12
import Derived.Test.YtfajkmmmmmfhiaaGreatDoorM09
import Derived.Test.YtfajkmmmmmfhiaaGreatDoorM07
import Derived.Test.YtfajkmmmmmfhiaaGreatDoorM06
import Derived.Test.YtfajkmmmmmfhiaaGreatDoorM05
import Derived.Test.YtfajkmmmmmfhiaaGreatDoorM04
import Derived.Test.YtfajkmmmmmfhiaaGreatDoorM03
import Derived.Test.YtfajkmmmmmfhiaaGreatDoorM00
import Derived.Test.YtfajkmmmmmfhiaaGreatDoorProg
import Derived.WalkKit
import Derived.Lib.Hide
import Derived.Deep.QuietTactic
import Derived.BigQuiet
import Derived.WalkSpells
import Derived.Lib.SliceRun
import Derived.MapKept
import Derived.Maps.OwnSet
import Derived.Maps.OwnOps
import Derived.Test.YtfajkmmmmmfhiaaGreatDoorM02
import Derived.Test.YtfajkmmmmmfhiaaGreatDoorM01
import Derived.Deep.AppendLies
import Derived.Lib.Bytealg
import Derived.Deep.DeepCutAuto
import Derived.Laws.EntriesVeiled
import Derived.Deep.RegionWith
import Derived.Deep.OwnRows
import Derived.RangeFuncNested
import Derived.RangeFuncBound
import Derived.RangeFuncCalls
import Derived.RangeFuncLeaves
import Derived.OwnWalkIn
import Derived.TacticsInMore
import Derived.LoopNIn
import Derived.LoopIn
import Derived.Stop.RegionWithIn
import Derived.Shelf.Abstract
import Derived.Deep.LoopGhost
import Derived.Deep.DrawnRows
import Derived.Shelf.Sort.Plain
import Derived.Shelf.Slices.CompactI
import Derived.Shelf.Slices.In.SortNone
import Derived.Shelf.Strconv.Itoa3
import Derived.Shelf.Strings.BuilderK
import Derived.Shelf.Slices.SearchI
import Derived.Shelf.Slices.Empties
import Derived.Lib.ItoaNum
import Derived.Test.YtfajkmmmmmfhiaaGreatDoorM13
import Derived.Test.YtfajkmmmmmfhiaaGreatDoorM08
import Derived.Deep.AppendSrc
import Derived.Lib.SlicesCompact
import Derived.Sort.OwnSortedInts
import Derived.Test.YtfajkmmmmmfhiaaGreatDoorM11
import Derived.Test.YtfajkmmmmmfhiaaGreatDoorM10
import Derived.Sort.QuietThIn
import Derived.Test.YtfajkmmmmmfhiaaGreatDoorM15
import Derived.Maps.RangeWalk
import Derived.RangeFuncBox
import Derived.Maps.OwnIn
import Derived.Lib.RowBridge
import Derived.ProofKit
import Derived.OpenShut
import Derived.ChangeArms
import Derived.SizedLaws

namespace Go.Proofs.YtfajkmmmmmfhiaaGreatDoor
open Go.RowKit
set_option maxHeartbeats 8000000 in
set_option maxRecDepth 100000 in
theorem awake41_any (w : World) :
    Calls Tryz.prog 12 #[] w fun e w' => e = .returned (.bool true) ∧ Below w.heap.size w w' := by
  go_enter Tryz.func12, Tryz.ntmps12
  go_upto_region 2 with (go_at_call 44; (with_reducible refine (example_any _).mono ?_); rintro e w1 ⟨v, rfl, ⟨an, nn, cn, ar, nr, cr, rfl⟩, hp, hb1⟩; have HP := Lib.hid hp; have HB := Lib.hid hb1; clear hp hb1)
  have hm := (Blk.new w1 [.int .i64 1, .int .i64 3, .int .i64 5] 3).alloc (.cells #[.int .i64 6, .slice an nn cn, .slice none 0 0, .slice ar nr cr, .slice none 0 0] 27)
  have hpb := Blk.newAt (w1.alloc (.cells #[.int .i64 1, .int .i64 3, .int .i64 5] 3)) [.int .i64 6, .slice an nn cn, .slice none 0 0, .slice ar nr cr, .slice none 0 0] 27 (show w1.heap.size + 1 = _ by simp)
  have hal := bal (bal (Below.refl w1.heap.size w1) (.cells #[.int .i64 1, .int .i64 3, .int .i64 5] 3)) (.cells #[.int .i64 6, .slice an nn cn, .slice none 0 0, .slice ar nr cr, .slice none 0 0] 27)
  have HBZ := Lib.hid (bon HB.out hal); clear HB; have HB := HBZ; clear HBZ; (try (have HPZ := Lib.hid (HP.out.below hal); clear HP; have HP := HPZ; clear HPZ)); (try (have HPBZ := Lib.hid (HPB.out.below hal); clear HPB; have HPB := HPBZ; clear HPBZ)); (try (have HMZ := Lib.hid (HM.out.below hal); clear HM; have HM := HMZ; clear HMZ)); (try (have HXZ := Lib.hid (HX.out.below hal); clear HX; have HX := HXZ; clear HXZ)); (try (have HXBZ := Lib.hid (HXB.out.below hal); clear HXB; have HXB := HXBZ; clear HXBZ)); (try (have HSZ := Lib.hid (HS.out.below hal); clear HS; have HS := HSZ; clear HSZ)); (try (have HKAZ := Lib.hid (HKA.out.below hal); clear HKA; have HKA := HKAZ; clear HKAZ)); (try (have HKBZ := Lib.hid (HKB.out.below hal); clear HKB; have HKB := HKBZ; clear HKBZ)); (try (have HYZ := Lib.hid (HY.out.below hal); clear HY; have HY := HYZ; clear HYZ)); (try (have HYBZ := Lib.hid (HYB.out.below hal); clear HYB; have HYB := HYBZ; clear HYBZ)); (try (have HWZ := Lib.hid (HW.out.below hal); clear HW; have HW := HWZ; clear HWZ)); (try (have HWBZ := Lib.hid (HWB.out.below hal); clear HWB; have HWB := HWBZ; clear HWBZ))
  have HM : Hid (Ints ((w1.alloc (.cells #[.int .i64 1, .int .i64 3, .int .i64 5] 3)).alloc (.cells #[.int .i64 6, .slice an nn cn, .slice none 0 0, .slice ar nr cr, .slice none 0 0] 27)) (.slice (some ⟨w1.heap.size, 0, none⟩) 3 3) [1, 3, 5]) := Lib.hid (Blk.intsL (l := [1, 3, 5]) hm (by decide))
  have HPB := Lib.hid hpb
  clear hm hpb hal
  generalize (w1.alloc (.cells #[.int .i64 1, .int .i64 3, .int .i64 5] 3)).alloc (.cells #[.int .i64 6, .slice an nn cn, .slice none 0 0, .slice ar nr cr, .slice none 0 0] 27) = W2 at *
  generalize w1.heap.size + 1 = pb at *
  generalize w1.heap.size = mb at *
  (try (clear kp)); (try (clear kx)); (try (clear ky)); (try (clear kw)); (try (have kp := HPB.out.cell)); (try (have kx := HXB.out.cell)); (try (have ky := HYB.out.cell)); (try (have kw := HWB.out.cell))
  go_upto_region 3 with (go_at_call 14; (with_reducible refine (exX_call HP.out HM.out).mono ?_); rintro e w3 ⟨aw, cw, ae, ce, rfl, hx, hb3⟩; have HBZ := Lib.hid (bon HB.out hb3); clear HB; have HB := HBZ; clear HBZ; (try (have HPZ := Lib.hid (HP.out.below hb3); clear HP; have HP := HPZ; clear HPZ)); (try (have HPBZ := Lib.hid (HPB.out.below hb3); clear HPB; have HPB := HPBZ; clear HPBZ)); (try (have HMZ := Lib.hid (HM.out.below hb3); clear HM; have HM := HMZ; clear HMZ)); (try (have HXZ := Lib.hid (HX.out.below hb3); clear HX; have HX := HXZ; clear HXZ)); (try (have HXBZ := Lib.hid (HXB.out.below hb3); clear HXB; have HXB := HXBZ; clear HXBZ)); (try (have HSZ := Lib.hid (HS.out.below hb3); clear HS; have HS := HSZ; clear HSZ)); (try (have HKAZ := Lib.hid (HKA.out.below hb3); clear HKA; have HKA := HKAZ; clear HKAZ)); (try (have HKBZ := Lib.hid (HKB.out.below hb3); clear HKB; have HKB := HKBZ; clear HKBZ)); (try (have HYZ := Lib.hid (HY.out.below hb3); clear HY; have HY := HYZ; clear HYZ)); (try (have HYBZ := Lib.hid (HYB.out.below hb3); clear HYB; have HYB := HYBZ; clear HYBZ)); (try (have HWZ := Lib.hid (HW.out.below hb3); clear HW; have HW := HWZ; clear HWZ)); (try (have HWBZ := Lib.hid (HWB.out.below hb3); clear HWB; have HWB := HWBZ; clear HWBZ)); have HX := Lib.hid hx; clear hx hb3)
  have hal := bal (Below.refl w3.heap.size w3) (.cells #[.slice aw 3 cw, .slice ae 0 ce] 30)
  have HBZ := Lib.hid (bon HB.out hal); clear HB; have HB := HBZ; clear HBZ; (try (have HPZ := Lib.hid (HP.out.below hal); clear HP; have HP := HPZ; clear HPZ)); (try (have HPBZ := Lib.hid (HPB.out.below hal); clear HPB; have HPB := HPBZ; clear HPBZ)); (try (have HMZ := Lib.hid (HM.out.below hal); clear HM; have HM := HMZ; clear HMZ)); (try (have HXZ := Lib.hid (HX.out.below hal); clear HX; have HX := HXZ; clear HXZ)); (try (have HXBZ := Lib.hid (HXB.out.below hal); clear HXB; have HXB := HXBZ; clear HXBZ)); (try (have HSZ := Lib.hid (HS.out.below hal); clear HS; have HS := HSZ; clear HSZ)); (try (have HKAZ := Lib.hid (HKA.out.below hal); clear HKA; have HKA := HKAZ; clear HKAZ)); (try (have HKBZ := Lib.hid (HKB.out.below hal); clear HKB; have HKB := HKBZ; clear HKBZ)); (try (have HYZ := Lib.hid (HY.out.below hal); clear HY; have HY := HYZ; clear HYZ)); (try (have HYBZ := Lib.hid (HYB.out.below hal); clear HYB; have HYB := HYBZ; clear HYBZ)); (try (have HWZ := Lib.hid (HW.out.below hal); clear HW; have HW := HWZ; clear HWZ)); (try (have HWBZ := Lib.hid (HWB.out.below hal); clear HWB; have HWB := HWBZ; clear HWBZ))
  have HXB := Lib.hid (Blk.new w3 [.slice aw 3 cw, .slice ae 0 ce] 30)
  clear hal
  generalize w3.alloc (.cells #[.slice aw 3 cw, .slice ae 0 ce] 30) = W3 at *
  generalize w3.heap.size = xb at *
  (try (clear kp)); (try (clear kx)); (try (clear ky)); (try (clear kw)); (try (have kp := HPB.out.cell)); (try (have kx := HXB.out.cell)); (try (have ky := HYB.out.cell)); (try (have kw := HWB.out.cell))
  go_upto_region 4 with (go_at_call 15; (with_reducible refine (exC_call HP.out HM.out HX.out).mono ?_); rintro e w4 ⟨rfl, hb4⟩; have HBZ := Lib.hid (bon HB.out hb4); clear HB; have HB := HBZ; clear HBZ; (try (have HPZ := Lib.hid (HP.out.below hb4); clear HP; have HP := HPZ; clear HPZ)); (try (have HPBZ := Lib.hid (HPB.out.below hb4); clear HPB; have HPB := HPBZ; clear HPBZ)); (try (have HMZ := Lib.hid (HM.out.below hb4); clear HM; have HM := HMZ; clear HMZ)); (try (have HXZ := Lib.hid (HX.out.below hb4); clear HX; have HX := HXZ; clear HXZ)); (try (have HXBZ := Lib.hid (HXB.out.below hb4); clear HXB; have HXB := HXBZ; clear HXBZ)); (try (have HSZ := Lib.hid (HS.out.below hb4); clear HS; have HS := HSZ; clear HSZ)); (try (have HKAZ := Lib.hid (HKA.out.below hb4); clear HKA; have HKA := HKAZ; clear HKAZ)); (try (have HKBZ := Lib.hid (HKB.out.below hb4); clear HKB; have HKB := HKBZ; clear HKBZ)); (try (have HYZ := Lib.hid (HY.out.below hb4); clear HY; have HY := HYZ; clear HYZ)); (try (have HYBZ := Lib.hid (HYB.out.below hb4); clear HYB; have HYB := HYBZ; clear HYBZ)); (try (have HWZ := Lib.hid (HW.out.below hb4); clear HW; have HW := HWZ; clear HWZ)); (try (have HWBZ := Lib.hid (HWB.out.below hb4); clear HWB; have HWB := HWBZ; clear HWBZ)); clear hb4; (try (clear kp)); (try (clear kx)); (try (clear ky)); (try (clear kw)); (try (have kp := HPB.out.cell)); (try (have kx := HXB.out.cell)); (try (have ky := HYB.out.cell)); (try (have kw := HWB.out.cell)))
  go_upto_region 5 with (go_at_call 16; (with_reducible refine (exS_call HP.out HM.out HX.out).mono ?_); rintro e w5 ⟨as5, cs5, rfl, hs, hb5⟩; have HBZ := Lib.hid (bon HB.out hb5); clear HB; have HB := HBZ; clear HBZ; (try (have HPZ := Lib.hid (HP.out.below hb5); clear HP; have HP := HPZ; clear HPZ)); (try (have HPBZ := Lib.hid (HPB.out.below hb5); clear HPB; have HPB := HPBZ; clear HPBZ)); (try (have HMZ := Lib.hid (HM.out.below hb5); clear HM; have HM := HMZ; clear HMZ)); (try (have HXZ := Lib.hid (HX.out.below hb5); clear HX; have HX := HXZ; clear HXZ)); (try (have HXBZ := Lib.hid (HXB.out.below hb5); clear HXB; have HXB := HXBZ; clear HXBZ)); (try (have HSZ := Lib.hid (HS.out.below hb5); clear HS; have HS := HSZ; clear HSZ)); (try (have HKAZ := Lib.hid (HKA.out.below hb5); clear HKA; have HKA := HKAZ; clear HKAZ)); (try (have HKBZ := Lib.hid (HKB.out.below hb5); clear HKB; have HKB := HKBZ; clear HKBZ)); (try (have HYZ := Lib.hid (HY.out.below hb5); clear HY; have HY := HYZ; clear HYZ)); (try (have HYBZ := Lib.hid (HYB.out.below hb5); clear HYB; have HYB := HYBZ; clear HYBZ)); (try (have HWZ := Lib.hid (HW.out.below hb5); clear HW; have HW := HWZ; clear HWZ)); (try (have HWBZ := Lib.hid (HWB.out.below hb5); clear HWB; have HWB := HWBZ; clear HWBZ)); have HS := Lib.hid hs; clear hs hb5; (try (clear kp)); (try (clear kx)); (try (clear ky)); (try (clear kw)); (try (have kp := HPB.out.cell)); (try (have kx := HXB.out.cell)); (try (have ky := HYB.out.cell)); (try (have kw := HWB.out.cell)))
  go_upto_region 6 with (go_at_call 17; (with_reducible refine (exB4 HP.out HM.out).mono ?_); rintro e w6 ⟨ab6, cb6, rfl, hs, hb6⟩; have HBZ := Lib.hid (bon HB.out hb6); clear HB; have HB := HBZ; clear HBZ; (try (have HPZ := Lib.hid (HP.out.below hb6); clear HP; have HP := HPZ; clear HPZ)); (try (have HPBZ := Lib.hid (HPB.out.below hb6); clear HPB; have HPB := HPBZ; clear HPBZ)); (try (have HMZ := Lib.hid (HM.out.below hb6); clear HM; have HM := HMZ; clear HMZ)); (try (have HXZ := Lib.hid (HX.out.below hb6); clear HX; have HX := HXZ; clear HXZ)); (try (have HXBZ := Lib.hid (HXB.out.below hb6); clear HXB; have HXB := HXBZ; clear HXBZ)); (try (have HSZ := Lib.hid (HS.out.below hb6); clear HS; have HS := HSZ; clear HSZ)); (try (have HKAZ := Lib.hid (HKA.out.below hb6); clear HKA; have HKA := HKAZ; clear HKAZ)); (try (have HKBZ := Lib.hid (HKB.out.below hb6); clear HKB; have HKB := HKBZ; clear HKBZ)); (try (have HYZ := Lib.hid (HY.out.below hb6); clear HY; have HY := HYZ; clear HYZ)); (try (have HYBZ := Lib.hid (HYB.out.below hb6); clear HYB; have HYB := HYBZ; clear HYBZ)); (try (have HWZ := Lib.hid (HW.out.below hb6); clear HW; have HW := HWZ; clear HWZ)); (try (have HWBZ := Lib.hid (HWB.out.below hb6); clear HWB; have HWB := HWBZ; clear HWBZ)); have HKA := Lib.hid hs; clear hs hb6; (try (clear kp)); (try (clear kx)); (try (clear ky)); (try (clear kw)); (try (have kp := HPB.out.cell)); (try (have kx := HXB.out.cell)); (try (have ky := HYB.out.cell)); (try (have kw := HWB.out.cell)))
  go_upto_region 7 with (go_at_call 17; (with_reducible refine (exB2 HP.out HM.out).mono ?_); rintro e w7 ⟨ab7, cb7, rfl, hs, hb7⟩; have HBZ := Lib.hid (bon HB.out hb7); clear HB; have HB := HBZ; clear HBZ; (try (have HPZ := Lib.hid (HP.out.below hb7); clear HP; have HP := HPZ; clear HPZ)); (try (have HPBZ := Lib.hid (HPB.out.below hb7); clear HPB; have HPB := HPBZ; clear HPBZ)); (try (have HMZ := Lib.hid (HM.out.below hb7); clear HM; have HM := HMZ; clear HMZ)); (try (have HXZ := Lib.hid (HX.out.below hb7); clear HX; have HX := HXZ; clear HXZ)); (try (have HXBZ := Lib.hid (HXB.out.below hb7); clear HXB; have HXB := HXBZ; clear HXBZ)); (try (have HSZ := Lib.hid (HS.out.below hb7); clear HS; have HS := HSZ; clear HSZ)); (try (have HKAZ := Lib.hid (HKA.out.below hb7); clear HKA; have HKA := HKAZ; clear HKAZ)); (try (have HKBZ := Lib.hid (HKB.out.below hb7); clear HKB; have HKB := HKBZ; clear HKBZ)); (try (have HYZ := Lib.hid (HY.out.below hb7); clear HY; have HY := HYZ; clear HYZ)); (try (have HYBZ := Lib.hid (HYB.out.below hb7); clear HYB; have HYB := HYBZ; clear HYBZ)); (try (have HWZ := Lib.hid (HW.out.below hb7); clear HW; have HW := HWZ; clear HWZ)); (try (have HWBZ := Lib.hid (HWB.out.below hb7); clear HWB; have HWB := HWBZ; clear HWBZ)); have HKB := Lib.hid hs; clear hs hb7; (try (clear kp)); (try (clear kx)); (try (clear ky)); (try (clear kw)); (try (have kp := HPB.out.cell)); (try (have kx := HXB.out.cell)); (try (have ky := HYB.out.cell)); (try (have kw := HWB.out.cell)))
  go_upto_region 8 with (go_at_call 17; (with_reducible refine (exB6 HP.out HM.out).mono ?_); rintro e w8 ⟨ab8, cb8, rfl, hs, hb8⟩; have HBZ := Lib.hid (bon HB.out hb8); clear HB; have HB := HBZ; clear HBZ; (try (have HPZ := Lib.hid (HP.out.below hb8); clear HP; have HP := HPZ; clear HPZ)); (try (have HPBZ := Lib.hid (HPB.out.below hb8); clear HPB; have HPB := HPBZ; clear HPBZ)); (try (have HMZ := Lib.hid (HM.out.below hb8); clear HM; have HM := HMZ; clear HMZ)); (try (have HXZ := Lib.hid (HX.out.below hb8); clear HX; have HX := HXZ; clear HXZ)); (try (have HXBZ := Lib.hid (HXB.out.below hb8); clear HXB; have HXB := HXBZ; clear HXBZ)); (try (have HSZ := Lib.hid (HS.out.below hb8); clear HS; have HS := HSZ; clear HSZ)); (try (have HKAZ := Lib.hid (HKA.out.below hb8); clear HKA; have HKA := HKAZ; clear HKAZ)); (try (have HKBZ := Lib.hid (HKB.out.below hb8); clear HKB; have HKB := HKBZ; clear HKBZ)); (try (have HYZ := Lib.hid (HY.out.below hb8); clear HY; have HY := HYZ; clear HYZ)); (try (have HYBZ := Lib.hid (HYB.out.below hb8); clear HYB; have HYB := HYBZ; clear HYBZ)); (try (have HWZ := Lib.hid (HW.out.below hb8); clear HW; have HW := HWZ; clear HWZ)); (try (have HWBZ := Lib.hid (HWB.out.below hb8); clear HWB; have HWB := HWBZ; clear HWBZ)); clear hs hb8; (try (clear kp)); (try (clear kx)); (try (clear ky)); (try (clear kw)); (try (have kp := HPB.out.cell)); (try (have kx := HXB.out.cell)); (try (have ky := HYB.out.cell)); (try (have kw := HWB.out.cell)))
  go_upto_region 9 with (go_at_call 14; (with_reducible refine (ex0_call HP.out).mono ?_); rintro e w9 ⟨aw0, cw0, ae0, ce0, rfl, hx, hb9⟩; have HBZ := Lib.hid (bon HB.out hb9); clear HB; have HB := HBZ; clear HBZ; (try (have HPZ := Lib.hid (HP.out.below hb9); clear HP; have HP := HPZ; clear HPZ)); (try (have HPBZ := Lib.hid (HPB.out.below hb9); clear HPB; have HPB := HPBZ; clear HPBZ)); (try (have HMZ := Lib.hid (HM.out.below hb9); clear HM; have HM := HMZ; clear HMZ)); (try (have HXZ := Lib.hid (HX.out.below hb9); clear HX; have HX := HXZ; clear HXZ)); (try (have HXBZ := Lib.hid (HXB.out.below hb9); clear HXB; have HXB := HXBZ; clear HXBZ)); (try (have HSZ := Lib.hid (HS.out.below hb9); clear HS; have HS := HSZ; clear HSZ)); (try (have HKAZ := Lib.hid (HKA.out.below hb9); clear HKA; have HKA := HKAZ; clear HKAZ)); (try (have HKBZ := Lib.hid (HKB.out.below hb9); clear HKB; have HKB := HKBZ; clear HKBZ)); (try (have HYZ := Lib.hid (HY.out.below hb9); clear HY; have HY := HYZ; clear HYZ)); (try (have HYBZ := Lib.hid (HYB.out.below hb9); clear HYB; have HYB := HYBZ; clear HYBZ)); (try (have HWZ := Lib.hid (HW.out.below hb9); clear HW; have HW := HWZ; clear HWZ)); (try (have HWBZ := Lib.hid (HWB.out.below hb9); clear HWB; have HWB := HWBZ; clear HWBZ)); clear hx hb9)
  have hal := bal (Below.refl w9.heap.size w9) (.cells #[.slice aw0 0 cw0, .slice ae0 0 ce0] 30)
  have HBZ := Lib.hid (bon HB.out hal); clear HB; have HB := HBZ; clear HBZ; (try (have HPZ := Lib.hid (HP.out.below hal); clear HP; have HP := HPZ; clear HPZ)); (try (have HPBZ := Lib.hid (HPB.out.below hal); clear HPB; have HPB := HPBZ; clear HPBZ)); (try (have HMZ := Lib.hid (HM.out.below hal); clear HM; have HM := HMZ; clear HMZ)); (try (have HXZ := Lib.hid (HX.out.below hal); clear HX; have HX := HXZ; clear HXZ)); (try (have HXBZ := Lib.hid (HXB.out.below hal); clear HXB; have HXB := HXBZ; clear HXBZ)); (try (have HSZ := Lib.hid (HS.out.below hal); clear HS; have HS := HSZ; clear HSZ)); (try (have HKAZ := Lib.hid (HKA.out.below hal); clear HKA; have HKA := HKAZ; clear HKAZ)); (try (have HKBZ := Lib.hid (HKB.out.below hal); clear HKB; have HKB := HKBZ; clear HKBZ)); (try (have HYZ := Lib.hid (HY.out.below hal); clear HY; have HY := HYZ; clear HYZ)); (try (have HYBZ := Lib.hid (HYB.out.below hal); clear HYB; have HYB := HYBZ; clear HYBZ)); (try (have HWZ := Lib.hid (HW.out.below hal); clear HW; have HW := HWZ; clear HWZ)); (try (have HWBZ := Lib.hid (HWB.out.below hal); clear HWB; have HWB := HWBZ; clear HWBZ))
  clear hal
  generalize w9.alloc (.cells #[.slice aw0 0 cw0, .slice ae0 0 ce0] 30) = w6 at *
  generalize w9.heap.size = nb at *
  (try (clear kp)); (try (clear kx)); (try (clear ky)); (try (clear kw)); (try (have kp := HPB.out.cell)); (try (have kx := HXB.out.cell)); (try (have ky := HYB.out.cell)); (try (have kw := HWB.out.cell))
  go_wp2_with fail
  generalize hW : World.alloc _ (.cells #[.bool false, .slice (some ⟨w6.heap.size, 0, none⟩) 2 2, .bool false, .int .i64 0, .slice none 0 0, .slice none 0 0, .bool false, .slice (some ⟨w6.heap.size + 1, 0, none⟩) 1 1, .bool false, .int .i64 0, .slice (some ⟨w6.heap.size + 1 + 1, 0, none⟩) 1 1, .slice none 0 0, .bool false, .slice (some ⟨w6.heap.size + 1 + 1 + 1, 0, none⟩) 1 1, .bool false, .int .i64 0, .slice (some ⟨w6.heap.size + 1 + 1 + 1 + 1, 0, none⟩) 1 1, .slice none 0 0] 60) = W9
  have b0 : Blk W9 (w6.heap.size) ([1, 2].map (Value.int .i64)) 3 := by rw [← hW]; (repeat first | (refine Blk.newAt _ _ _ ?_; first | rfl | (simp only [World.size_alloc]; done) | (simp only [World.size_alloc]; omega)) | refine Blk.alloc ?_ _)
  have b1 : Blk W9 (w6.heap.size + 1) ([1].map (Value.int .i64)) 3 := by rw [← hW]; (repeat first | (refine Blk.newAt _ _ _ ?_; first | rfl | (simp only [World.size_alloc]; done) | (simp only [World.size_alloc]; omega)) | refine Blk.alloc ?_ _)
  have b2 : Blk W9 (w6.heap.size + 1 + 1) ([2].map (Value.int .i64)) 3 := by rw [← hW]; (repeat first | (refine Blk.newAt _ _ _ ?_; first | rfl | (simp only [World.size_alloc]; done) | (simp only [World.size_alloc]; omega)) | refine Blk.alloc ?_ _)
  have b3 : Blk W9 (w6.heap.size + 1 + 1 + 1) ([2].map (Value.int .i64)) 3 := by rw [← hW]; (repeat first | (refine Blk.newAt _ _ _ ?_; first | rfl | (simp only [World.size_alloc]; done) | (simp only [World.size_alloc]; omega)) | refine Blk.alloc ?_ _)
  have b4 : Blk W9 (w6.heap.size + 1 + 1 + 1 + 1) ([1].map (Value.int .i64)) 3 := by rw [← hW]; (repeat first | (refine Blk.newAt _ _ _ ?_; first | rfl | (simp only [World.size_alloc]; done) | (simp only [World.size_alloc]; omega)) | refine Blk.alloc ?_ _)
  have br : Blk W9 (w6.heap.size + 1 + 1 + 1 + 1 + 1) ([((⟨false, [1, 2], false, 0, [], []⟩ : GR), Value.slice (some ⟨w6.heap.size, 0, none⟩) 2 2, Value.slice none 0 0, Value.slice none 0 0), ((⟨false, [1], false, 0, [2], []⟩ : GR), Value.slice (some ⟨w6.heap.size + 1, 0, none⟩) 1 1, Value.slice (some ⟨w6.heap.size + 1 + 1, 0, none⟩) 1 1, Value.slice none 0 0), ((⟨false, [2], false, 0, [1], []⟩ : GR), Value.slice (some ⟨w6.heap.size + 1 + 1 + 1, 0, none⟩) 1 1, Value.slice (some ⟨w6.heap.size + 1 + 1 + 1 + 1, 0, none⟩) 1 1, Value.slice none 0 0)].flatMap cells6) 60 := by rw [← hW]; (repeat first | (refine Blk.newAt _ _ _ ?_; first | rfl | (simp only [World.size_alloc]; done) | (simp only [World.size_alloc]; omega)) | refine Blk.alloc ?_ _)
  have hR : RulesIs W9 (.slice (some ⟨w6.heap.size + 1 + 1 + 1 + 1 + 1, 0, none⟩) 3 3) [⟨false, [1, 2], false, 0, [], []⟩, ⟨false, [1], false, 0, [2], []⟩, ⟨false, [2], false, 0, [1], []⟩] := br.rules (fun q hq => by
    simp only [List.mem_cons, List.not_mem_nil, or_false] at hq
    rcases hq with rfl | rfl | rfl
    · exact ⟨b0.intsL (by decide), nil_ints _, nil_ints _, (show InI 0 from inI_small (by decide))⟩
    · exact ⟨b1.intsL (by decide), b2.intsL (by decide), nil_ints _, (show InI 0 from inI_small (by decide))⟩
    · exact ⟨b3.intsL (by decide), b4.intsL (by decide), nil_ints _, (show InI 0 from inI_small (by decide))⟩) (by simp)
  have hb9 : Below w6.heap.size w6 W9 := by rw [← hW]; repeat first | exact Below.refl _ _ | refine bal ?_ _
  have HR := Lib.hid hR
  clear hW hR br b0 b1 b2 b3 b4
  (have HBZ := Lib.hid (bon HB.out hb9); clear HB; have HB := HBZ; clear HBZ; (try (have HPZ := Lib.hid (HP.out.below hb9); clear HP; have HP := HPZ; clear HPZ)); (try (have HPBZ := Lib.hid (HPB.out.below hb9); clear HPB; have HPB := HPBZ; clear HPBZ)); (try (have HMZ := Lib.hid (HM.out.below hb9); clear HM; have HM := HMZ; clear HMZ)); (try (have HXZ := Lib.hid (HX.out.below hb9); clear HX; have HX := HXZ; clear HXZ)); (try (have HXBZ := Lib.hid (HXB.out.below hb9); clear HXB; have HXB := HXBZ; clear HXBZ)); (try (have HSZ := Lib.hid (HS.out.below hb9); clear HS; have HS := HSZ; clear HSZ)); (try (have HKAZ := Lib.hid (HKA.out.below hb9); clear HKA; have HKA := HKAZ; clear HKAZ)); (try (have HKBZ := Lib.hid (HKB.out.below hb9); clear HKB; have HKB := HKBZ; clear HKBZ)); (try (have HYZ := Lib.hid (HY.out.below hb9); clear HY; have HY := HYZ; clear HYZ)); (try (have HYBZ := Lib.hid (HYB.out.below hb9); clear HYB; have HYB := HYBZ; clear HYBZ)); (try (have HWZ := Lib.hid (HW.out.below hb9); clear HW; have HW := HWZ; clear HWZ)); (try (have HWBZ := Lib.hid (HWB.out.below hb9); clear HWB; have HWB := HWBZ; clear HWBZ)))
  clear hb9
  refine (with_any 2 (by decide) _ eyR W9 HR.out).mono ?_
  rintro e w10 ⟨rfl, hn, hb10⟩
  have HQ := Lib.hid (with_prog (by decide) hn (HR.out.below hb10))
  (have HBZ := Lib.hid (bon HB.out hb10); clear HB; have HB := HBZ; clear HBZ; (try (have HPZ := Lib.hid (HP.out.below hb10); clear HP; have HP := HPZ; clear HPZ)); (try (have HPBZ := Lib.hid (HPB.out.below hb10); clear HPB; have HPB := HPBZ; clear HPBZ)); (try (have HMZ := Lib.hid (HM.out.below hb10); clear HM; have HM := HMZ; clear HMZ)); (try (have HXZ := Lib.hid (HX.out.below hb10); clear HX; have HX := HXZ; clear HXZ)); (try (have HXBZ := Lib.hid (HXB.out.below hb10); clear HXB; have HXB := HXBZ; clear HXBZ)); (try (have HSZ := Lib.hid (HS.out.below hb10); clear HS; have HS := HSZ; clear HSZ)); (try (have HKAZ := Lib.hid (HKA.out.below hb10); clear HKA; have HKA := HKAZ; clear HKAZ)); (try (have HKBZ := Lib.hid (HKB.out.below hb10); clear HKB; have HKB := HKBZ; clear HKBZ)); (try (have HYZ := Lib.hid (HY.out.below hb10); clear HY; have HY := HYZ; clear HYZ)); (try (have HYBZ := Lib.hid (HYB.out.below hb10); clear HYB; have HYB := HYBZ; clear HYBZ)); (try (have HWZ := Lib.hid (HW.out.below hb10); clear HW; have HW := HWZ; clear HWZ)); (try (have HWBZ := Lib.hid (HWB.out.below hb10); clear HWB; have HWB := HWBZ; clear HWBZ)))
  clear hn hb10 HR
  generalize w6.heap.size + 1 + 1 + 1 + 1 + 1 = rb at *
  generalize W9.heap.size + 1 = sb at *
  have hal := bal (Below.refl w10.heap.size w10) (.cells #[.int .i64 1, .int .i64 2] 3)
  have HM2 : Hid (Ints (w10.alloc (.cells #[.int .i64 1, .int .i64 2] 3)) (.slice (some ⟨w10.heap.size, 0, none⟩) 2 2) [1, 2]) := Lib.hid (Blk.intsL (l := [1, 2]) (Blk.new w10 [.int .i64 1, .int .i64 2] 3) (by decide))
  have HQ2 := Lib.hid (HQ.out.below hal)
  (have HBZ := Lib.hid (bon HB.out hal); clear HB; have HB := HBZ; clear HBZ; (try (have HPZ := Lib.hid (HP.out.below hal); clear HP; have HP := HPZ; clear HPZ)); (try (have HPBZ := Lib.hid (HPB.out.below hal); clear HPB; have HPB := HPBZ; clear HPBZ)); (try (have HMZ := Lib.hid (HM.out.below hal); clear HM; have HM := HMZ; clear HMZ)); (try (have HXZ := Lib.hid (HX.out.below hal); clear HX; have HX := HXZ; clear HXZ)); (try (have HXBZ := Lib.hid (HXB.out.below hal); clear HXB; have HXB := HXBZ; clear HXBZ)); (try (have HSZ := Lib.hid (HS.out.below hal); clear HS; have HS := HSZ; clear HSZ)); (try (have HKAZ := Lib.hid (HKA.out.below hal); clear HKA; have HKA := HKAZ; clear HKAZ)); (try (have HKBZ := Lib.hid (HKB.out.below hal); clear HKB; have HKB := HKBZ; clear HKBZ)); (try (have HYZ := Lib.hid (HY.out.below hal); clear HY; have HY := HYZ; clear HYZ)); (try (have HYBZ := Lib.hid (HYB.out.below hal); clear HYB; have HYB := HYBZ; clear HYBZ)); (try (have HWZ := Lib.hid (HW.out.below hal); clear HW; have HW := HWZ; clear HWZ)); (try (have HWBZ := Lib.hid (HWB.out.below hal); clear HWB; have HWB := HWBZ; clear HWBZ)))
  clear hal HQ
  (try (clear kp)); (try (clear kx)); (try (clear ky)); (try (clear kw)); (try (have kp := HPB.out.cell)); (try (have kx := HXB.out.cell)); (try (have ky := HYB.out.cell)); (try (have kw := HWB.out.cell))
  go_upto_region 10 with (go_at_call 14; (with_reducible refine (eyX_call HQ2.out HM2.out).mono ?_); rintro e w11 ⟨awy, cwy, aey, cey, rfl, hy, hb11⟩; have HBZ := Lib.hid (bon HB.out hb11); clear HB; have HB := HBZ; clear HBZ; (try (have HPZ := Lib.hid (HP.out.below hb11); clear HP; have HP := HPZ; clear HPZ)); (try (have HPBZ := Lib.hid (HPB.out.below hb11); clear HPB; have HPB := HPBZ; clear HPBZ)); (try (have HMZ := Lib.hid (HM.out.below hb11); clear HM; have HM := HMZ; clear HMZ)); (try (have HXZ := Lib.hid (HX.out.below hb11); clear HX; have HX := HXZ; clear HXZ)); (try (have HXBZ := Lib.hid (HXB.out.below hb11); clear HXB; have HXB := HXBZ; clear HXBZ)); (try (have HSZ := Lib.hid (HS.out.below hb11); clear HS; have HS := HSZ; clear HSZ)); (try (have HKAZ := Lib.hid (HKA.out.below hb11); clear HKA; have HKA := HKAZ; clear HKAZ)); (try (have HKBZ := Lib.hid (HKB.out.below hb11); clear HKB; have HKB := HKBZ; clear HKBZ)); (try (have HYZ := Lib.hid (HY.out.below hb11); clear HY; have HY := HYZ; clear HYZ)); (try (have HYBZ := Lib.hid (HYB.out.below hb11); clear HYB; have HYB := HYBZ; clear HYBZ)); (try (have HWZ := Lib.hid (HW.out.below hb11); clear HW; have HW := HWZ; clear HWZ)); (try (have HWBZ := Lib.hid (HWB.out.below hb11); clear HWB; have HWB := HWBZ; clear HWBZ)); have HY := Lib.hid hy; clear hy hb11)
  have hal := bal (Below.refl w11.heap.size w11) (.cells #[.slice awy 0 cwy, .slice aey 2 cey] 30)
  (have HBZ := Lib.hid (bon HB.out hal); clear HB; have HB := HBZ; clear HBZ; (try (have HPZ := Lib.hid (HP.out.below hal); clear HP; have HP := HPZ; clear HPZ)); (try (have HPBZ := Lib.hid (HPB.out.below hal); clear HPB; have HPB := HPBZ; clear HPBZ)); (try (have HMZ := Lib.hid (HM.out.below hal); clear HM; have HM := HMZ; clear HMZ)); (try (have HXZ := Lib.hid (HX.out.below hal); clear HX; have HX := HXZ; clear HXZ)); (try (have HXBZ := Lib.hid (HXB.out.below hal); clear HXB; have HXB := HXBZ; clear HXBZ)); (try (have HSZ := Lib.hid (HS.out.below hal); clear HS; have HS := HSZ; clear HSZ)); (try (have HKAZ := Lib.hid (HKA.out.below hal); clear HKA; have HKA := HKAZ; clear HKAZ)); (try (have HKBZ := Lib.hid (HKB.out.below hal); clear HKB; have HKB := HKBZ; clear HKBZ)); (try (have HYZ := Lib.hid (HY.out.below hal); clear HY; have HY := HYZ; clear HYZ)); (try (have HYBZ := Lib.hid (HYB.out.below hal); clear HYB; have HYB := HYBZ; clear HYBZ)); (try (have HWZ := Lib.hid (HW.out.below hal); clear HW; have HW := HWZ; clear HWZ)); (try (have HWBZ := Lib.hid (HWB.out.below hal); clear HWB; have HWB := HWBZ; clear HWBZ)))
  have HYB := Lib.hid (Blk.new w11 [.slice awy 0 cwy, .slice aey 2 cey] 30)
  clear hal HM2 HQ2
  generalize w11.alloc (.cells #[.slice awy 0 cwy, .slice aey 2 cey] 30) = W11 at *
  generalize w11.heap.size = yb at *
  (try (clear kp)); (try (clear kx)); (try (clear ky)); (try (clear kw)); (try (have kp := HPB.out.cell)); (try (have kx := HXB.out.cell)); (try (have ky := HYB.out.cell)); (try (have kw := HWB.out.cell))
  go_upto_region 11 with fail
  have hal := bal (bal (Below.refl W11.heap.size W11) (.cells #[.int .i64 1, .int .i64 0, .int .i64 1, .int .i64 3, .int .i64 1, .int .i64 2, .int .i64 5, .int .i64 2, .int .i64 3] 49)) (.cells #[.slice (some ⟨W11.heap.size, 0, none⟩) 3 3, .slice none 0 0] 30)
  have HW := Lib.hid (ex_lit ((Blk.new W11 [.int .i64 1, .int .i64 0, .int .i64 1, .int .i64 3, .int .i64 1, .int .i64 2, .int .i64 5, .int .i64 2, .int .i64 3] 49).alloc (.cells #[.slice (some ⟨W11.heap.size, 0, none⟩) 3 3, .slice none 0 0] 30)))
  have HWB := Lib.hid (Blk.newAt (W11.alloc (.cells #[.int .i64 1, .int .i64 0, .int .i64 1, .int .i64 3, .int .i64 1, .int .i64 2, .int .i64 5, .int .i64 2, .int .i64 3] 49)) [.slice (some ⟨W11.heap.size, 0, none⟩) 3 3, .slice none 0 0] 30 (show W11.heap.size + 1 = _ by simp))
  have HBZ := Lib.hid (bon HB.out hal); clear HB; have HB := HBZ; clear HBZ
  have HPZ := Lib.hid (HP.out.below hal); clear HP; have HP := HPZ; clear HPZ
  have HPBZ := Lib.hid (HPB.out.below hal); clear HPB; have HPB := HPBZ; clear HPBZ
  have HMZ := Lib.hid (HM.out.below hal); clear HM; have HM := HMZ; clear HMZ
  have HXZ := Lib.hid (HX.out.below hal); clear HX; have HX := HXZ; clear HXZ
  have HXBZ := Lib.hid (HXB.out.below hal); clear HXB; have HXB := HXBZ; clear HXBZ
  have HSZ := Lib.hid (HS.out.below hal); clear HS; have HS := HSZ; clear HSZ
  have HKAZ := Lib.hid (HKA.out.below hal); clear HKA; have HKA := HKAZ; clear HKAZ
  have HKBZ := Lib.hid (HKB.out.below hal); clear HKB; have HKB := HKBZ; clear HKBZ
  have HYZ := Lib.hid (HY.out.below hal); clear HY; have HY := HYZ; clear HYZ
  have HYBZ := Lib.hid (HYB.out.below hal); clear HYB; have HYB := HYBZ; clear HYBZ
  clear hal
  generalize (W11.alloc (.cells #[.int .i64 1, .int .i64 0, .int .i64 1, .int .i64 3, .int .i64 1, .int .i64 2, .int .i64 5, .int .i64 2, .int .i64 3] 49)).alloc (.cells #[.slice (some ⟨W11.heap.size, 0, none⟩) 3 3, .slice none 0 0] 30) = W12 at *
  generalize W11.heap.size + 1 = wb at *
  generalize W11.heap.size = wr0 at *
  (try (clear kp)); (try (clear kx)); (try (clear ky)); (try (clear kw)); (try (have kp := HPB.out.cell)); (try (have kx := HXB.out.cell)); (try (have ky := HYB.out.cell)); (try (have kw := HWB.out.cell))
  go_wp2_with (first
    | (go_at_call 18; (with_reducible refine (exT_call HP.out HX.out).mono ?_); rintro e w18 ⟨rfl, hb18⟩; have HBZ := Lib.hid (bon HB.out hb18); clear HB; have HB := HBZ; clear HBZ; (try (have HPZ := Lib.hid (HP.out.below hb18); clear HP; have HP := HPZ; clear HPZ)); (try (have HPBZ := Lib.hid (HPB.out.below hb18); clear HPB; have HPB := HPBZ; clear HPBZ)); (try (have HMZ := Lib.hid (HM.out.below hb18); clear HM; have HM := HMZ; clear HMZ)); (try (have HXZ := Lib.hid (HX.out.below hb18); clear HX; have HX := HXZ; clear HXZ)); (try (have HXBZ := Lib.hid (HXB.out.below hb18); clear HXB; have HXB := HXBZ; clear HXBZ)); (try (have HSZ := Lib.hid (HS.out.below hb18); clear HS; have HS := HSZ; clear HSZ)); (try (have HKAZ := Lib.hid (HKA.out.below hb18); clear HKA; have HKA := HKAZ; clear HKAZ)); (try (have HKBZ := Lib.hid (HKB.out.below hb18); clear HKB; have HKB := HKBZ; clear HKBZ)); (try (have HYZ := Lib.hid (HY.out.below hb18); clear HY; have HY := HYZ; clear HYZ)); (try (have HYBZ := Lib.hid (HYB.out.below hb18); clear HYB; have HYB := HYBZ; clear HYBZ)); (try (have HWZ := Lib.hid (HW.out.below hb18); clear HW; have HW := HWZ; clear HWZ)); (try (have HWBZ := Lib.hid (HWB.out.below hb18); clear HWB; have HWB := HWBZ; clear HWBZ)); clear hb18; (try (clear kp)); (try (clear kx)); (try (clear ky)); (try (clear kw)); (try (have kp := HPB.out.cell)); (try (have kx := HXB.out.cell)); (try (have ky := HYB.out.cell)); (try (have kw := HWB.out.cell)))
    | (go_at_call 20; (with_reducible refine (same_t HX.out HW.out).mono ?_); rintro e w13 ⟨rfl, hb13⟩; have HBZ := Lib.hid (bon HB.out hb13); clear HB; have HB := HBZ; clear HBZ; (try (have HPZ := Lib.hid (HP.out.below hb13); clear HP; have HP := HPZ; clear HPZ)); (try (have HPBZ := Lib.hid (HPB.out.below hb13); clear HPB; have HPB := HPBZ; clear HPBZ)); (try (have HMZ := Lib.hid (HM.out.below hb13); clear HM; have HM := HMZ; clear HMZ)); (try (have HXZ := Lib.hid (HX.out.below hb13); clear HX; have HX := HXZ; clear HXZ)); (try (have HXBZ := Lib.hid (HXB.out.below hb13); clear HXB; have HXB := HXBZ; clear HXBZ)); (try (have HSZ := Lib.hid (HS.out.below hb13); clear HS; have HS := HSZ; clear HSZ)); (try (have HKAZ := Lib.hid (HKA.out.below hb13); clear HKA; have HKA := HKAZ; clear HKAZ)); (try (have HKBZ := Lib.hid (HKB.out.below hb13); clear HKB; have HKB := HKBZ; clear HKBZ)); (try (have HYZ := Lib.hid (HY.out.below hb13); clear HY; have HY := HYZ; clear HYZ)); (try (have HYBZ := Lib.hid (HYB.out.below hb13); clear HYB; have HYB := HYBZ; clear HYBZ)); (try (have HWZ := Lib.hid (HW.out.below hb13); clear HW; have HW := HWZ; clear HWZ)); (try (have HWBZ := Lib.hid (HWB.out.below hb13); clear HWB; have HWB := HWBZ; clear HWBZ)); clear hb13; (try (clear kp)); (try (clear kx)); (try (clear ky)); (try (clear kw)); (try (have kp := HPB.out.cell)); (try (have kx := HXB.out.cell)); (try (have ky := HYB.out.cell)); (try (have kw := HWB.out.cell)))
    | (go_at_call 20; (with_reducible refine (same_t (HY.out.below (bal (Below.refl _ _) _)) (ey_lit _)).mono ?_); rintro e w17 ⟨rfl, hb17⟩; have hbz := bon (bal (Below.refl _ _) _) hb17; have HBZ := Lib.hid (bon HB.out hbz); clear HB; have HB := HBZ; clear HBZ; (try (have HPZ := Lib.hid (HP.out.below hbz); clear HP; have HP := HPZ; clear HPZ)); (try (have HPBZ := Lib.hid (HPB.out.below hbz); clear HPB; have HPB := HPBZ; clear HPBZ)); (try (have HMZ := Lib.hid (HM.out.below hbz); clear HM; have HM := HMZ; clear HMZ)); (try (have HXZ := Lib.hid (HX.out.below hbz); clear HX; have HX := HXZ; clear HXZ)); (try (have HXBZ := Lib.hid (HXB.out.below hbz); clear HXB; have HXB := HXBZ; clear HXBZ)); (try (have HSZ := Lib.hid (HS.out.below hbz); clear HS; have HS := HSZ; clear HSZ)); (try (have HKAZ := Lib.hid (HKA.out.below hbz); clear HKA; have HKA := HKAZ; clear HKAZ)); (try (have HKBZ := Lib.hid (HKB.out.below hbz); clear HKB; have HKB := HKBZ; clear HKBZ)); (try (have HYZ := Lib.hid (HY.out.below hbz); clear HY; have HY := HYZ; clear HYZ)); (try (have HYBZ := Lib.hid (HYB.out.below hbz); clear HYB; have HYB := HYBZ; clear HYBZ)); (try (have HWZ := Lib.hid (HW.out.below hbz); clear HW; have HW := HWZ; clear HWZ)); (try (have HWBZ := Lib.hid (HWB.out.below hbz); clear HWB; have HWB := HWBZ; clear HWBZ)); clear hbz hb17; (try (clear kp)); (try (clear kx)); (try (clear ky)); (try (clear kw)); (try (have kp := HPB.out.cell)); (try (have kx := HXB.out.cell)); (try (have ky := HYB.out.cell)); (try (have kw := HWB.out.cell)))
    | (go_at_call 23; (with_reducible refine (ints_t HS.out HM.out).mono ?_); rintro e w14 ⟨rfl, hb14⟩; have HBZ := Lib.hid (bon HB.out hb14); clear HB; have HB := HBZ; clear HBZ; (try (have HPZ := Lib.hid (HP.out.below hb14); clear HP; have HP := HPZ; clear HPZ)); (try (have HPBZ := Lib.hid (HPB.out.below hb14); clear HPB; have HPB := HPBZ; clear HPBZ)); (try (have HMZ := Lib.hid (HM.out.below hb14); clear HM; have HM := HMZ; clear HMZ)); (try (have HXZ := Lib.hid (HX.out.below hb14); clear HX; have HX := HXZ; clear HXZ)); (try (have HXBZ := Lib.hid (HXB.out.below hb14); clear HXB; have HXB := HXBZ; clear HXBZ)); (try (have HSZ := Lib.hid (HS.out.below hb14); clear HS; have HS := HSZ; clear HSZ)); (try (have HKAZ := Lib.hid (HKA.out.below hb14); clear HKA; have HKA := HKAZ; clear HKAZ)); (try (have HKBZ := Lib.hid (HKB.out.below hb14); clear HKB; have HKB := HKBZ; clear HKBZ)); (try (have HYZ := Lib.hid (HY.out.below hb14); clear HY; have HY := HYZ; clear HYZ)); (try (have HYBZ := Lib.hid (HYB.out.below hb14); clear HYB; have HYB := HYBZ; clear HYBZ)); (try (have HWZ := Lib.hid (HW.out.below hb14); clear HW; have HW := HWZ; clear HWZ)); (try (have HWBZ := Lib.hid (HWB.out.below hb14); clear HWB; have HWB := HWBZ; clear HWBZ)); clear hb14; (try (clear kp)); (try (clear kx)); (try (clear ky)); (try (clear kw)); (try (have kp := HPB.out.cell)); (try (have kx := HXB.out.cell)); (try (have ky := HYB.out.cell)); (try (have kw := HWB.out.cell)))
    | (go_at_call 25; (with_reducible refine (blocks_t (HKA.out.below (bal (Below.refl _ _) _)) (blk1 _ bi1)).mono ?_); rintro e w15 ⟨rfl, hb15⟩; have hbz := bon (bal (Below.refl _ _) _) hb15; have HBZ := Lib.hid (bon HB.out hbz); clear HB; have HB := HBZ; clear HBZ; (try (have HPZ := Lib.hid (HP.out.below hbz); clear HP; have HP := HPZ; clear HPZ)); (try (have HPBZ := Lib.hid (HPB.out.below hbz); clear HPB; have HPB := HPBZ; clear HPBZ)); (try (have HMZ := Lib.hid (HM.out.below hbz); clear HM; have HM := HMZ; clear HMZ)); (try (have HXZ := Lib.hid (HX.out.below hbz); clear HX; have HX := HXZ; clear HXZ)); (try (have HXBZ := Lib.hid (HXB.out.below hbz); clear HXB; have HXB := HXBZ; clear HXBZ)); (try (have HSZ := Lib.hid (HS.out.below hbz); clear HS; have HS := HSZ; clear HSZ)); (try (have HKAZ := Lib.hid (HKA.out.below hbz); clear HKA; have HKA := HKAZ; clear HKAZ)); (try (have HKBZ := Lib.hid (HKB.out.below hbz); clear HKB; have HKB := HKBZ; clear HKBZ)); (try (have HYZ := Lib.hid (HY.out.below hbz); clear HY; have HY := HYZ; clear HYZ)); (try (have HYBZ := Lib.hid (HYB.out.below hbz); clear HYB; have HYB := HYBZ; clear HYBZ)); (try (have HWZ := Lib.hid (HW.out.below hbz); clear HW; have HW := HWZ; clear HWZ)); (try (have HWBZ := Lib.hid (HWB.out.below hbz); clear HWB; have HWB := HWBZ; clear HWBZ)); clear hbz hb15; (try (clear kp)); (try (clear kx)); (try (clear ky)); (try (clear kw)); (try (have kp := HPB.out.cell)); (try (have kx := HXB.out.cell)); (try (have ky := HYB.out.cell)); (try (have kw := HWB.out.cell)))
    | (go_at_call 25; (with_reducible refine (blocks_t (HKB.out.below (bal (Below.refl _ _) _)) (blk1 _ bi2)).mono ?_); rintro e w16 ⟨rfl, hb16⟩; have hbz := bon (bal (Below.refl _ _) _) hb16; have HBZ := Lib.hid (bon HB.out hbz); clear HB; have HB := HBZ; clear HBZ; (try (have HPZ := Lib.hid (HP.out.below hbz); clear HP; have HP := HPZ; clear HPZ)); (try (have HPBZ := Lib.hid (HPB.out.below hbz); clear HPB; have HPB := HPBZ; clear HPBZ)); (try (have HMZ := Lib.hid (HM.out.below hbz); clear HM; have HM := HMZ; clear HMZ)); (try (have HXZ := Lib.hid (HX.out.below hbz); clear HX; have HX := HXZ; clear HXZ)); (try (have HXBZ := Lib.hid (HXB.out.below hbz); clear HXB; have HXB := HXBZ; clear HXBZ)); (try (have HSZ := Lib.hid (HS.out.below hbz); clear HS; have HS := HSZ; clear HSZ)); (try (have HKAZ := Lib.hid (HKA.out.below hbz); clear HKA; have HKA := HKAZ; clear HKAZ)); (try (have HKBZ := Lib.hid (HKB.out.below hbz); clear HKB; have HKB := HKBZ; clear HKBZ)); (try (have HYZ := Lib.hid (HY.out.below hbz); clear HY; have HY := HYZ; clear HYZ)); (try (have HYBZ := Lib.hid (HYB.out.below hbz); clear HYB; have HYB := HYBZ; clear HYBZ)); (try (have HWZ := Lib.hid (HW.out.below hbz); clear HW; have HW := HWZ; clear HWZ)); (try (have HWBZ := Lib.hid (HWB.out.below hbz); clear HWB; have HWB := HWBZ; clear HWBZ)); clear hbz hb16; (try (clear kp)); (try (clear kx)); (try (clear ky)); (try (clear kw)); (try (have kp := HPB.out.cell)); (try (have kx := HXB.out.cell)); (try (have ky := HYB.out.cell)); (try (have kw := HWB.out.cell))))
  go_ret
  exact ⟨rfl, HB.out⟩
structure E41 (w : World) (p : GP) (vn vs vr vm : Value) (W : World) : Prop where
  box : Blk W w.heap.size [.int .i64 p.n, vn, vs, vr, vm] 27
  prog : ProgIs W (.agg #[.int .i64 p.n, vn, vs, vr, vm]) p
  below : Below w.heap.size w W
theorem E41.on {w W W' : World} {p : GP} {vn vs vr vm : Value} (h : E41 w p vn vs vr vm W) (hb : Below W.heap.size W W') : E41 w p vn vs vr vm W' := ⟨h.box.below hb, h.prog.below hb, bon h.below hb⟩
theorem E41.start {w : World} {p : GP} {vn vs vr vm : Value} (h : ProgIs w (.agg #[.int .i64 p.n, vn, vs, vr, vm]) p) : E41 w p vn vs vr vm (w.alloc (.cells #[.int .i64 p.n, vn, vs, vr, vm] 27)) := by
  have hal : Below w.heap.size w (w.alloc (.cells #[.int .i64 p.n, vn, vs, vr, vm] 27)) := bal (Below.refl _ _) _
  exact ⟨Blk.new w _ _, h.below hal, hal⟩
structure Eb41 (w : World) (p : GP) (vn vs vr vm vS : Value) (m : List Int) (vL : Value) (L : List BK) (W : World) : Prop where
  st : E41 w p vn vs vr vm W
  set : Ints W vS m
  blk : BlksIs W vL L
theorem Eb41.on {w W W' : World} {p : GP} {vn vs vr vm vS vL : Value} {m : List Int} {L : List BK} (h : Eb41 w p vn vs vr vm vS m vL L W) (hb : Below W.heap.size W W') : Eb41 w p vn vs vr vm vS m vL L W' := ⟨h.st.on hb, h.set.below hb, h.blk.below hb⟩
theorem list_of {α : Type} (d : α) {Q : Nat → α → Prop} : ∀ (n : Nat), (∀ i, i < n → ∃ x, Q i x) → ∃ l : List α, l.length = n ∧ ∀ i, i < n → Q i (l.getD i d)
  | 0, _ => ⟨[], rfl, fun i hi => absurd hi (Nat.not_lt_zero _)⟩
  | n + 1, h => by
    obtain ⟨l, hl, hq⟩ := list_of d n (fun i hi => h i (by omega))
    obtain ⟨x, hx⟩ := h n (by omega)
    refine ⟨l ++ [x], by simp [hl], fun i hi => ?_⟩
    by_cases e : i < n
    · have := hq i e
      rw [List.getD_eq_getElem?_getD, List.getElem?_append_left (by omega), ← List.getD_eq_getElem?_getD]
      exact this
    · obtain rfl : i = n := by omega
      rw [List.getD_eq_getElem?_getD, List.getElem?_append_right (by omega)]
      simp [hl, hx]
section
variable {H : Type} {enc : TypeId × Value → H} {P : Program} {w : World}
def Reads (enc : TypeId × Value → H) (P : Program) (w : World) (t : TypeId) (cs : List Value) : Prop :=
  ∃ fuel y, DataW.trod enc P w 0 (fun _ => true) true fuel t cs = some y ∧ ∀ m ∈ y.1.weights P t, m ≤ reachBytes
theorem cells_at {a : Addr} {n : Nat} {cs : List Value} (h : w.cells? 0 a n = some cs) : cs.length = n ∧ ∀ j, j < n → w.cell? (a.add j) = cs[j]? := by
  unfold World.cells? at h
  rw [if_pos (Nat.zero_le _)] at h
  refine ⟨by simpa using mapM_some_length h, fun j hj => ?_⟩
  exact mapM_some_get h j j (by simp [hj])
theorem weightsAll_mem {e : TypeId} : ∀ {l : List (DataW H)} {i : Nat} {d : DataW H}, l[i]? = some d → ∀ m ∈ d.weights P e, m ∈ DataW.weightsAll P e l
  | [], i, d, h, m, hm => by simp at h
  | x :: l, 0, d, h, m, hm => by
    simp only [List.getElem?_cons_zero, Option.some.injEq] at h
    subst h
    unfold DataW.weightsAll
    exact List.mem_append.2 (.inl hm)
  | x :: l, i + 1, d, h, m, hm => by
    simp only [List.getElem?_cons_succ] at h
    unfold DataW.weightsAll
    exact List.mem_append.2 (.inr (weightsAll_mem h m hm))
theorem open_slc {t e : TypeId} {sz byt : Nat} {cs : List Value} (ht : P.underlying t = some (.slice e)) (hc : P.cellsOf e = sz) (hs : 1 ≤ sz) (hb : P.bytesOf e = byt) (h : Reads enc P w t cs) :
    ∃ a n cap, cs = [.slice a n cap] ∧ n ≤ cap ∧ cap ≤ maxLen ∧ n * byt ≤ 140737488351232 ∧
      (0 < n → ∃ b off, a = some ⟨b, off, none⟩ ∧ b < w.heap.size ∧ ∀ i, i < n → ∃ cs', cs'.length = sz ∧ (∀ j, j < sz → w.cell? ⟨b, off + i * sz + j, none⟩ = cs'[j]?) ∧ Reads enc P w e cs') := by
  obtain ⟨fuel, y, hy, hw⟩ := h
  rcases DataW.trod_slice ht hy with ⟨rfl, rfl⟩ | ⟨a, len, cap, elems, rest, n, rfl, rfl, rfl, -, hl, hm, hlen, hel, -, -⟩
  · exact ⟨none, 0, 0, rfl, Nat.le_refl _, by unfold maxLen; omega, by omega, fun h => absurd h (Nat.lt_irrefl _)⟩
  · have hws : ∀ m, m ∈ DataW.weights P t (.slice (elems.map (·.1)) (rest.map (·.1))) ↔ m = ((elems.map (·.1)).length + (rest.map (·.1)).length) * P.bytesOf e ∨ m ∈ DataW.weightsAll P e (elems.map (·.1)) ∨ m ∈ DataW.weightsAll P e (rest.map (·.1)) := by
      intro m; simp only [DataW.weights, ht, List.mem_cons, List.mem_append]
    have hbig := hw _ ((hws _).2 (.inl rfl))
    simp only [List.length_map, hlen, hb] at hbig
    have hreach : reachBytes = 140737488351232 := by decide
    refine ⟨some a, len, cap, rfl, hl, hm, ?_, fun hp => ?_⟩
    · have : len * byt ≤ (len + rest.length) * byt := Nat.mul_le_mul_right _ (by omega)
      omega
    · obtain ⟨b, off, spot⟩ := a
      have each : ∀ i, i < len → ∃ cs' y, w.cells? 0 ((⟨b, off, spot⟩ : Addr).add (i * P.cellsOf e)) (P.cellsOf e) = some cs' ∧ DataW.trod enc P w 0 (fun _ => true) true n e cs' = some y ∧ elems[i]? = some y := fun i hi => by
        have h1 := hel i hi
        rw [List.getElem?_eq_getElem (by omega)] at h1
        obtain ⟨cs', h2, h3⟩ := Option.bind_eq_some_iff.1 h1
        exact ⟨cs', _, h2, h3, List.getElem?_eq_getElem (by omega)⟩
      have hspot : spot = none := by
        obtain ⟨cs', y, h1, -, -⟩ := each 0 hp
        rw [Nat.zero_mul, hc] at h1
        obtain ⟨h2, h3⟩ := cells_at h1
        have h4 := h3 0 (by omega)
        rw [List.getElem?_eq_getElem (by omega)] at h4
        simpa [Addr.add] using World.cell?_spot h4
      subst hspot
      have add : ∀ (x : Nat) (o : Nat), ((⟨b, x, none⟩ : Addr).add o) = ⟨b, x + o, none⟩ := fun x o => by unfold Addr.add; split <;> simp_all
      refine ⟨b, off, rfl, ?_, fun i hi => ?_⟩
      · obtain ⟨cs', y, h1, -, -⟩ := each 0 hp
        rw [Nat.zero_mul, hc] at h1
        obtain ⟨h2, h3⟩ := cells_at h1
        have h4 := h3 0 (by omega)
        rw [List.getElem?_eq_getElem (by omega)] at h4
        refine Classical.byContradiction fun hn => ?_
        have : w.heap[b]? = none := Array.getElem?_eq_none (by omega)
        simp [World.cell?, Addr.add, this] at h4
      · obtain ⟨cs', y, h1, h2, h3⟩ := each i hi
        rw [hc] at h1
        obtain ⟨h4, h5⟩ := cells_at h1
        refine ⟨cs', h4, fun j hj => ?_, n, y, h2, fun m hm => hw m ((hws m).2 (.inr (.inl ?_)))⟩
        · have := h5 j hj
          rw [add, add] at this
          exact this
        · exact weightsAll_mem (i := i) (by simp [h3]) m hm
theorem open_int1 {t : TypeId} {k : IntKind} {cs : List Value} (ht : P.underlying t = some (.int k)) (h : Reads enc P w t cs) : ∃ n, cs = [.int k n] ∧ (Lit.int k n).wf = true := by
  obtain ⟨fuel, y, hy, -⟩ := h
  obtain ⟨n, h1, -, h2⟩ := DataW.trod_int ht hy
  exact ⟨n, h1, h2⟩
theorem open_bool1 {t : TypeId} {cs : List Value} (ht : P.underlying t = some .bool) (h : Reads enc P w t cs) : ∃ b, cs = [.bool b] := by
  obtain ⟨fuel, y, hy, -⟩ := h
  obtain ⟨n, h1, -⟩ := DataW.trod_bool ht hy
  exact ⟨n, h1⟩
theorem open_str1 {t : TypeId} {cs : List Value} (ht : P.underlying t = some .string) (h : Reads enc P w t cs) : ∃ s, cs = [.string s] ∧ s.size ≤ 140737488351232 := by
  obtain ⟨fuel, y, hy, hw⟩ := h
  obtain ⟨s, h1, h2, -⟩ := DataW.trod_string ht hy
  subst h2
  refine ⟨s, h1, ?_⟩
  have := hw s.data.toList.length (by simp [DataW.weights])
  have hreach : reachBytes = 140737488351232 := by decide
  rw [hreach] at this
  simpa using this
theorem open_fld {t : TypeId} {fs : Array Field} {cs : List Value} (ht : P.underlying t = some (.struct fs)) (h : Reads enc P w t cs) {i : Nat} {f : Field} (hf : fs[i]? = some f) : cs.length = P.cellsOf t ∧ Reads enc P w f.type ((cs.drop f.offset).take (P.cellsOf f.type)) := by
  obtain ⟨fuel, y, hy, hw⟩ := h
  obtain ⟨xs, n, rfl, rfl, hl, hx, hel⟩ := DataW.trod_struct ht hy
  refine ⟨hl, n, ?_⟩
  have h1 := hel i f hf
  have hi : i < fs.size := (Array.getElem?_eq_some_iff.1 hf).1
  rw [List.getElem?_eq_getElem (by omega)] at h1
  refine ⟨_, h1, fun m hm => hw m ?_⟩
  simp only [DataW.weights, ht]
  exact DataW.weights_mem_each (j := i) (t := f.type) (d := (xs[i]'(by omega)).1) (by simp [hf]) (by simp [List.getElem?_eq_getElem (show i < xs.length by omega)]) m hm
end
theorem open_at {H : Type} {enc : TypeId × Value → H} {P : Program} {w : World} {t : TypeId} {fs : Array Field} {cs : List Value} (ht : P.underlying t = some (.struct fs)) (h : Reads enc P w t cs) (i ty off n : Nat)
    (hf : (fs[i]?).map (fun f => (f.type, f.offset)) = some (ty, off)) (hn : P.cellsOf ty = n) : Reads enc P w ty ((cs.drop off).take n) := by
  obtain ⟨f, h1, h2⟩ := Option.map_eq_some_iff.1 hf
  simp only [Prod.mk.injEq] at h2
  obtain ⟨rfl, rfl⟩ := h2
  subst hn
  exact (open_fld ht h h1).2
theorem open_len {H : Type} {enc : TypeId × Value → H} {P : Program} {w : World} {t : TypeId} {fs : Array Field} {cs : List Value} (ht : P.underlying t = some (.struct fs)) (h : Reads enc P w t cs) : cs.length = P.cellsOf t := by
  obtain ⟨fuel, y, hy, hw⟩ := h
  obtain ⟨xs, n, rfl, rfl, hl, hx, hel⟩ := DataW.trod_struct ht hy
  exact hl
section
variable {H : Type} {enc : TypeId × Value → H} {w : World}
theorem wf_i64 {n : Int} (h : (Lit.int .i64 n).wf = true) : -9223372036854775808 ≤ n ∧ n ≤ 9223372036854775807 := by
  have := bounds_i64 h; omega
theorem open_Ints {cs : List Value} (h : Reads enc Tryz.prog w 23 cs) : ∃ v l, cs = [v] ∧ Ints w v l := by
  obtain ⟨a, n, cap, rfl, h1, h2, h3, h4⟩ := open_slc (sz := 1) (byt := 8) Tryz.underlying23 (by kernel_rfl) (Nat.le_refl _) (by kernel_rfl) h
  by_cases hp : 0 < n
  · obtain ⟨b, off, rfl, hb, hel⟩ := h4 hp
    obtain ⟨l, hl, hq⟩ := list_of (0 : Int) (Q := fun i z => w.cell? ⟨b, off + i, none⟩ = some (.int .i64 z) ∧ InI z) n (fun i hi => by
      obtain ⟨cs', h5, h6, h7⟩ := hel i hi
      obtain ⟨z, rfl, hz⟩ := open_int1 Tryz.underlying3 h7
      have := h6 0 (by omega)
      simp only [Nat.mul_one, Nat.add_zero, List.getElem?_cons_zero] at this
      exact ⟨z, this, wf_i64 hz⟩)
    refine ⟨_, l, rfl, ⟨_, cap, by rw [hl], by omega, h2, by omega, fun _ => ⟨b, off, rfl, hb, fun i hi => (hq i (by omega)).1⟩⟩, fun i => ?_⟩
    by_cases hi : i < n
    · exact (hq i hi).2
    · have : ix l i = 0 := by unfold ix; rw [List.getD_eq_getElem?_getD, List.getElem?_eq_none (by omega)]; rfl
      rw [this]; omega
  · obtain rfl : n = 0 := by omega
    exact ⟨_, [], rfl, ⟨a, cap, rfl, h1, h2, by simp, fun h => absurd h (by simp)⟩, fun i => by simp [ix]⟩
theorem open_Strs {cs : List Value} (h : Reads enc Tryz.prog w 22 cs) : ∃ v l, cs = [v] ∧ Strs w v l := by
  obtain ⟨a, n, cap, rfl, h1, h2, h3, h4⟩ := open_slc (sz := 1) (byt := 16) Tryz.underlying22 (by kernel_rfl) (Nat.le_refl _) (by kernel_rfl) h
  have hempty : (ixS [] 0).size ≤ 140737488351232 := by decide
  by_cases hp : 0 < n
  · obtain ⟨b, off, rfl, hb, hel⟩ := h4 hp
    obtain ⟨l, hl, hq⟩ := list_of (⟨#[]⟩ : ByteArray) (Q := fun i z => w.cell? ⟨b, off + i, none⟩ = some (.string z) ∧ z.size ≤ 140737488351232) n (fun i hi => by
      obtain ⟨cs', h5, h6, h7⟩ := hel i hi
      obtain ⟨z, rfl, hz⟩ := open_str1 Tryz.underlying9 h7
      have := h6 0 (by omega)
      simp only [Nat.mul_one, Nat.add_zero, List.getElem?_cons_zero] at this
      exact ⟨z, this, hz⟩)
    refine ⟨_, l, rfl, ⟨_, cap, by rw [hl], by omega, h2, by omega, fun _ => ⟨b, off, rfl, hb, fun i hi => (hq i (by omega)).1⟩⟩, fun i => ?_⟩
    by_cases hi : i < n
    · exact (hq i hi).2
    · have : ixS l i = ⟨#[]⟩ := by unfold ixS; rw [List.getD_eq_getElem?_getD, List.getElem?_eq_none (by omega)]; rfl
      rw [this]; exact hempty
  · obtain rfl : n = 0 := by omega
    exact ⟨_, [], rfl, ⟨a, cap, rfl, h1, h2, by simp, fun h => absurd h (by simp)⟩, fun i => by simpa [ixS] using hempty⟩
theorem six {cs : List Value} (h : cs.length = 6) : ∃ a b c d e f, cs = [a, b, c, d, e, f] := by
  match cs, h with
  | [a, b, c, d, e, f], _ => exact ⟨a, b, c, d, e, f, rfl⟩
theorem five {cs : List Value} (h : cs.length = 5) : ∃ a b c d e, cs = [a, b, c, d, e] := by
  match cs, h with
  | [a, b, c, d, e], _ => exact ⟨a, b, c, d, e, rfl⟩
theorem three {cs : List Value} (h : cs.length = 3) : ∃ a b c, cs = [a, b, c] := by
  match cs, h with
  | [a, b, c], _ => exact ⟨a, b, c, rfl⟩
theorem cellsRule : Tryz.prog.cellsOf 60 = 6 := by kernel_rfl
theorem cellsMin : Tryz.prog.cellsOf 80 = 3 := by kernel_rfl
theorem cellsProg : Tryz.prog.cellsOf 27 = 5 := by kernel_rfl
theorem cellsI : Tryz.prog.cellsOf 3 = 1 := by kernel_rfl
theorem cellsB : Tryz.prog.cellsOf 4 = 1 := by kernel_rfl
theorem cellsIs : Tryz.prog.cellsOf 23 = 1 := by kernel_rfl
theorem cellsSs : Tryz.prog.cellsOf 22 = 1 := by kernel_rfl
theorem cellsRs : Tryz.prog.cellsOf 24 = 1 := by kernel_rfl
theorem cellsMs : Tryz.prog.cellsOf 25 = 1 := by kernel_rfl
theorem open_Rule {cs : List Value} (h : Reads enc Tryz.prog w 60 cs) : ∃ (r : GR) (vh vb vw : Value), cs = [.bool r.choice, vh, .bool r.sum, .int .i64 r.bound, vb, vw] ∧ RuleSl w r vh vb vw := by
  have hl := open_len Tryz.underlying60 h
  have f0 := open_at Tryz.underlying60 h 0 4 0 1 rfl cellsB
  have f1 := open_at Tryz.underlying60 h 1 23 1 1 rfl cellsIs
  have f2 := open_at Tryz.underlying60 h 2 4 2 1 rfl cellsB
  have f3 := open_at Tryz.underlying60 h 3 3 3 1 rfl cellsI
  have f4 := open_at Tryz.underlying60 h 4 23 4 1 rfl cellsIs
  have f5 := open_at Tryz.underlying60 h 5 23 5 1 rfl cellsIs
  rw [cellsRule] at hl
  obtain ⟨c0, c1, c2, c3, c4, c5, rfl⟩ := six hl
  simp only [List.drop_succ_cons, List.drop_zero, List.take_succ_cons, List.take_zero] at f0 f1 f2 f3 f4 f5
  obtain ⟨b0, h0⟩ := open_bool1 Tryz.underlying4 f0
  obtain ⟨v1, l1, h1, g1⟩ := open_Ints f1
  obtain ⟨b2, h2⟩ := open_bool1 Tryz.underlying4 f2
  obtain ⟨n3, h3, g3⟩ := open_int1 Tryz.underlying3 f3
  obtain ⟨v4, l4, h4, g4⟩ := open_Ints f4
  obtain ⟨v5, l5, h5, g5⟩ := open_Ints f5
  simp only [List.cons.injEq, and_true] at h0 h1 h2 h3 h4 h5
  subst h0 h1 h2 h3 h4 h5
  exact ⟨⟨b0, l1, b2, n3, l4, l5⟩, _, _, _, rfl, g1, g4, g5, wf_i64 g3⟩
theorem open_Min {cs : List Value} (h : Reads enc Tryz.prog w 80 cs) : ∃ (m : GM) (vl vw : Value), cs = [.int .i64 m.level, vl, vw] ∧ MinSl w m vl vw := by
  have hl := open_len Tryz.underlying80 h
  have f0 := open_at Tryz.underlying80 h 0 3 0 1 rfl cellsI
  have f1 := open_at Tryz.underlying80 h 1 23 1 1 rfl cellsIs
  have f2 := open_at Tryz.underlying80 h 2 23 2 1 rfl cellsIs
  rw [cellsMin] at hl
  obtain ⟨c0, c1, c2, rfl⟩ := three hl
  simp only [List.drop_succ_cons, List.drop_zero, List.take_succ_cons, List.take_zero] at f0 f1 f2
  obtain ⟨n0, h0, g0⟩ := open_int1 Tryz.underlying3 f0
  obtain ⟨v1, l1, h1, g1⟩ := open_Ints f1
  obtain ⟨v2, l2, h2, g2⟩ := open_Ints f2
  simp only [List.cons.injEq, and_true] at h0 h1 h2
  subst h0 h1 h2
  exact ⟨⟨n0, l1, l2⟩, _, _, rfl, g1, g2, wf_i64 g0⟩
theorem open_Rules {cs : List Value} (h : Reads enc Tryz.prog w 24 cs) : ∃ v l, cs = [v] ∧ RulesIs w v l := by
  obtain ⟨a, n, cap, rfl, h1, h2, h3, h4⟩ := open_slc (sz := 6) (byt := 96) Tryz.underlying24 cellsRule (by omega) (by kernel_rfl) h
  by_cases hp : 0 < n
  · obtain ⟨b, off, rfl, hb, hel⟩ := h4 hp
    obtain ⟨l, hl, hq⟩ := list_of ((default : GR), nilS, nilS, nilS) (Q := fun i (q : GR × Value × Value × Value) => (∀ j, j < 6 → w.cell? ⟨b, off + i * 6 + j, none⟩ = some (ruleCell q.1 q.2.1 q.2.2.1 q.2.2.2 j)) ∧ RuleSl w q.1 q.2.1 q.2.2.1 q.2.2.2) n (fun i hi => by
      obtain ⟨cs', h5, h6, h7⟩ := hel i hi
      obtain ⟨r, vh, vb, vw, rfl, hr⟩ := open_Rule h7
      refine ⟨(r, vh, vb, vw), fun j hj => ?_, hr⟩
      rw [h6 j hj]
      rcases (show j = 0 ∨ j = 1 ∨ j = 2 ∨ j = 3 ∨ j = 4 ∨ j = 5 by omega) with rfl | rfl | rfl | rfl | rfl | rfl <;> rfl)
    have hix : ∀ i, i < n → ixR (l.map (·.1)) i = (l.getD i (default, nilS, nilS, nilS)).1 := fun i hi => by
      simp [ixR, List.getD_eq_getElem?_getD, List.getElem?_eq_getElem (show i < l.length by omega)]
    refine ⟨_, l.map (·.1), rfl, fun i => (l.getD i (default, nilS, nilS, nilS)).2.1, fun i => (l.getD i (default, nilS, nilS, nilS)).2.2.1, fun i => (l.getD i (default, nilS, nilS, nilS)).2.2.2,
      ⟨_, cap, by rw [List.length_map, hl], by simp [hl]; omega, h2, by simp [hl]; omega, fun _ => ⟨b, off, rfl, hb, fun i hi j hj => ?_⟩⟩, fun i hi => ?_⟩
    · simp only [List.length_map, hl] at hi
      dsimp only
      rw [hix i hi]
      exact (hq i hi).1 j hj
    · simp only [List.length_map, hl] at hi
      rw [hix i hi]
      exact (hq i hi).2
  · obtain rfl : n = 0 := by omega
    exact ⟨_, [], rfl, fun _ => nilS, fun _ => nilS, fun _ => nilS, ⟨a, cap, rfl, h1, h2, by simp, fun h => absurd h (by simp)⟩, fun i hi => absurd hi (by simp)⟩
theorem open_Mins {cs : List Value} (h : Reads enc Tryz.prog w 25 cs) : ∃ v l, cs = [v] ∧ MinsIs w v l := by
  obtain ⟨a, n, cap, rfl, h1, h2, h3, h4⟩ := open_slc (sz := 3) (byt := 56) Tryz.underlying25 cellsMin (by omega) (by kernel_rfl) h
  by_cases hp : 0 < n
  · obtain ⟨b, off, rfl, hb, hel⟩ := h4 hp
    obtain ⟨l, hl, hq⟩ := list_of ((default : GM), nilS, nilS) (Q := fun i (q : GM × Value × Value) => (∀ j, j < 3 → w.cell? ⟨b, off + i * 3 + j, none⟩ = some (minCell q.1 q.2.1 q.2.2 j)) ∧ MinSl w q.1 q.2.1 q.2.2) n (fun i hi => by
      obtain ⟨cs', h5, h6, h7⟩ := hel i hi
      obtain ⟨r, vl, vw, rfl, hr⟩ := open_Min h7
      refine ⟨(r, vl, vw), fun j hj => ?_, hr⟩
      rw [h6 j hj]
      rcases (show j = 0 ∨ j = 1 ∨ j = 2 by omega) with rfl | rfl | rfl <;> rfl)
    have hix : ∀ i, i < n → ixM (l.map (·.1)) i = (l.getD i (default, nilS, nilS)).1 := fun i hi => by
      simp [ixM, List.getD_eq_getElem?_getD, List.getElem?_eq_getElem (show i < l.length by omega)]
    refine ⟨_, l.map (·.1), rfl, fun i => (l.getD i (default, nilS, nilS)).2.1, fun i => (l.getD i (default, nilS, nilS)).2.2,
      ⟨_, cap, by rw [List.length_map, hl], by simp [hl]; omega, h2, by simp [hl]; omega, fun _ => ⟨b, off, rfl, hb, fun i hi j hj => ?_⟩⟩, fun i hi => ?_⟩
    · simp only [List.length_map, hl] at hi
      dsimp only
      rw [hix i hi]
      exact (hq i hi).1 j hj
    · simp only [List.length_map, hl] at hi
      rw [hix i hi]
      exact (hq i hi).2
  · obtain rfl : n = 0 := by omega
    exact ⟨_, [], rfl, fun _ => nilS, fun _ => nilS, ⟨a, cap, rfl, h1, h2, by simp, fun h => absurd h (by simp)⟩, fun i hi => absurd hi (by simp)⟩
theorem open_Prog {cs : List Value} (h : Reads enc Tryz.prog w 27 cs) : ∃ (p : GP) (vn vs vr vm : Value), cs = [.int .i64 p.n, vn, vs, vr, vm] ∧ ProgSl w p vn vs vr vm := by
  have hl := open_len Tryz.underlying27 h
  have f0 := open_at Tryz.underlying27 h 0 3 0 1 rfl cellsI
  have f1 := open_at Tryz.underlying27 h 1 22 1 1 rfl cellsSs
  have f2 := open_at Tryz.underlying27 h 2 23 2 1 rfl cellsIs
  have f3 := open_at Tryz.underlying27 h 3 24 3 1 rfl cellsRs
  have f4 := open_at Tryz.underlying27 h 4 25 4 1 rfl cellsMs
  rw [cellsProg] at hl
  obtain ⟨c0, c1, c2, c3, c4, rfl⟩ := five hl
  simp only [List.drop_succ_cons, List.drop_zero, List.take_succ_cons, List.take_zero] at f0 f1 f2 f3 f4
  obtain ⟨n0, h0, g0⟩ := open_int1 Tryz.underlying3 f0
  obtain ⟨v1, l1, h1, g1⟩ := open_Strs f1
  obtain ⟨v2, l2, h2, g2⟩ := open_Ints f2
  obtain ⟨v3, l3, h3, g3⟩ := open_Rules f3
  obtain ⟨v4, l4, h4, g4⟩ := open_Mins f4
  simp only [List.cons.injEq, and_true] at h0 h1 h2 h3 h4
  subst h0 h1 h2 h3 h4
  exact ⟨⟨n0, l1, l2, l3, l4⟩, _, _, _, _, rfl, wf_i64 g0, g1, g2, g3, g4⟩
end
end Go.Proofs.YtfajkmmmmmfhiaaGreatDoor
