/- My texts Tx7, Bw41, Ck41, Mine, RowR, merged. -/
import Derived.Test.YtfajkmmmmmfhiaaGreatDoorM17
import Derived.Test.YtfajkmmmmmfhiaaGreatDoorM16
import Derived.Test.YtfajkmmmmmfhiaaGreatDoorM09
import Derived.Test.YtfajkmmmmmfhiaaGreatDoorM07
import Derived.Test.YtfajkmmmmmfhiaaGreatDoorM06
import Derived.Test.YtfajkmmmmmfhiaaGreatDoorM05
import Derived.Test.YtfajkmmmmmfhiaaGreatDoorM04
import Derived.Test.YtfajkmmmmmfhiaaGreatDoorM03
import Derived.Test.YtfajkmmmmmfhiaaGreatDoorM00
import Derived.Test.YtfajkmmmmmfhiaaGreatDoorProg
import Derived.WalkKit
import Derived.Lib.Hide
import Derived.Deep.QuietTactic
import Derived.BigQuiet
import Derived.WalkSpells
import Derived.Lib.SliceRun
import Derived.MapKept
import Derived.Maps.OwnSet
import Derived.Maps.OwnOps
import Derived.Test.YtfajkmmmmmfhiaaGreatDoorM02
import Derived.Test.YtfajkmmmmmfhiaaGreatDoorM01
import Derived.Deep.AppendLies
import Derived.Lib.Bytealg
import Derived.Deep.DeepCutAuto
import Derived.Laws.EntriesVeiled
import Derived.Deep.RegionWith
import Derived.Deep.OwnRows
import Derived.RangeFuncNested
import Derived.RangeFuncBound
import Derived.RangeFuncCalls
import Derived.RangeFuncLeaves
import Derived.OwnWalkIn
import Derived.TacticsInMore
import Derived.LoopNIn
import Derived.LoopIn
import Derived.Stop.RegionWithIn
import Derived.Shelf.Abstract
import Derived.Deep.LoopGhost
import Derived.Deep.DrawnRows
import Derived.Shelf.Sort.Plain
import Derived.Shelf.Slices.CompactI
import Derived.Shelf.Slices.In.SortNone
import Derived.Shelf.Strconv.Itoa3
import Derived.Shelf.Strings.BuilderK
import Derived.Shelf.Slices.SearchI
import Derived.Shelf.Slices.Empties
import Derived.Lib.ItoaNum
import Derived.Test.YtfajkmmmmmfhiaaGreatDoorM13
import Derived.Test.YtfajkmmmmmfhiaaGreatDoorM11
import Derived.Test.YtfajkmmmmmfhiaaGreatDoorM10
import Derived.Test.YtfajkmmmmmfhiaaGreatDoorM08
import Derived.Deep.AppendSrc
import Derived.Lib.SlicesCompact
import Derived.Sort.OwnSortedInts
import Derived.Test.YtfajkmmmmmfhiaaGreatDoorM14
import Derived.Test.YtfajkmmmmmfhiaaGreatDoorM15
import Derived.Test.YtfajkmmmmmfhiaaGreatDoorM12
import Derived.Sort.QuietThIn
import Derived.Maps.RangeWalk
import Derived.RangeFuncBox
import Derived.Maps.OwnIn
import Derived.Lib.RowBridge

namespace Go.Proofs.YtfajkmmmmmfhiaaGreatDoor
open Go.RowKit
set_option maxHeartbeats 8000000 in
set_option maxRecDepth 100000 in
theorem awake41_any (w : World) :
    Calls Tryz.prog 12 #[] w fun e w' => e = .returned (.bool true) ∧ Below w.heap.size w w' := by
  go_enter Tryz.func12, Tryz.ntmps12
  go_upto_region 2 with (go_at_call 44; (with_reducible refine (example_any _).mono ?_); rintro e w1 ⟨v, rfl, ⟨an, nn, cn, ar, nr, cr, rfl⟩, hp, hb1⟩; have HP := Lib.hid hp; have HB := Lib.hid hb1; clear hp hb1)
  have hm := (Blk.new w1 [.int .i64 1, .int .i64 3, .int .i64 5] 3).alloc (.cells #[.int .i64 6, .slice an nn cn, .slice none 0 0, .slice ar nr cr, .slice none 0 0] 27)
  have hpb := Blk.newAt (w1.alloc (.cells #[.int .i64 1, .int .i64 3, .int .i64 5] 3)) [.int .i64 6, .slice an nn cn, .slice none 0 0, .slice ar nr cr, .slice none 0 0] 27 (show w1.heap.size + 1 = _ by simp)
  have hal := bal (bal (Below.refl w1.heap.size w1) (.cells #[.int .i64 1, .int .i64 3, .int .i64 5] 3)) (.cells #[.int .i64 6, .slice an nn cn, .slice none 0 0, .slice ar nr cr, .slice none 0 0] 27)
  have HBZ := Lib.hid (bon HB.out hal); clear HB; have HB := HBZ; clear HBZ; (try (have HPZ := Lib.hid (HP.out.below hal); clear HP; have HP := HPZ; clear HPZ)); (try (have HPBZ := Lib.hid (HPB.out.below hal); clear HPB; have HPB := HPBZ; clear HPBZ)); (try (have HMZ := Lib.hid (HM.out.below hal); clear HM; have HM := HMZ; clear HMZ)); (try (have HXZ := Lib.hid (HX.out.below hal); clear HX; have HX := HXZ; clear HXZ)); (try (have HXBZ := Lib.hid (HXB.out.below hal); clear HXB; have HXB := HXBZ; clear HXBZ)); (try (have HSZ := Lib.hid (HS.out.below hal); clear HS; have HS := HSZ; clear HSZ)); (try (have HKAZ := Lib.hid (HKA.out.below hal); clear HKA; have HKA := HKAZ; clear HKAZ)); (try (have HKBZ := Lib.hid (HKB.out.below hal); clear HKB; have HKB := HKBZ; clear HKBZ)); (try (have HYZ := Lib.hid (HY.out.below hal); clear HY; have HY := HYZ; clear HYZ)); (try (have HYBZ := Lib.hid (HYB.out.below hal); clear HYB; have HYB := HYBZ; clear HYBZ)); (try (have HWZ := Lib.hid (HW.out.below hal); clear HW; have HW := HWZ; clear HWZ)); (try (have HWBZ := Lib.hid (HWB.out.below hal); clear HWB; have HWB := HWBZ; clear HWBZ))
  have HM : Hid (Ints ((w1.alloc (.cells #[.int .i64 1, .int .i64 3, .int .i64 5] 3)).alloc (.cells #[.int .i64 6, .slice an nn cn, .slice none 0 0, .slice ar nr cr, .slice none 0 0] 27)) (.slice (some ⟨w1.heap.size, 0, none⟩) 3 3) [1, 3, 5]) := Lib.hid (Blk.intsL (l := [1, 3, 5]) hm (by decide))
  have HPB := Lib.hid hpb
  clear hm hpb hal
  generalize (w1.alloc (.cells #[.int .i64 1, .int .i64 3, .int .i64 5] 3)).alloc (.cells #[.int .i64 6, .slice an nn cn, .slice none 0 0, .slice ar nr cr, .slice none 0 0] 27) = W2 at *
  generalize w1.heap.size + 1 = pb at *
  generalize w1.heap.size = mb at *
  (try (clear kp)); (try (clear kx)); (try (clear ky)); (try (clear kw)); (try (have kp := HPB.out.cell)); (try (have kx := HXB.out.cell)); (try (have ky := HYB.out.cell)); (try (have kw := HWB.out.cell))
  go_upto_region 3 with (go_at_call 14; (with_reducible refine (exX_call HP.out HM.out).mono ?_); rintro e w3 ⟨aw, cw, ae, ce, rfl, hx, hb3⟩; have HBZ := Lib.hid (bon HB.out hb3); clear HB; have HB := HBZ; clear HBZ; (try (have HPZ := Lib.hid (HP.out.below hb3); clear HP; have HP := HPZ; clear HPZ)); (try (have HPBZ := Lib.hid (HPB.out.below hb3); clear HPB; have HPB := HPBZ; clear HPBZ)); (try (have HMZ := Lib.hid (HM.out.below hb3); clear HM; have HM := HMZ; clear HMZ)); (try (have HXZ := Lib.hid (HX.out.below hb3); clear HX; have HX := HXZ; clear HXZ)); (try (have HXBZ := Lib.hid (HXB.out.below hb3); clear HXB; have HXB := HXBZ; clear HXBZ)); (try (have HSZ := Lib.hid (HS.out.below hb3); clear HS; have HS := HSZ; clear HSZ)); (try (have HKAZ := Lib.hid (HKA.out.below hb3); clear HKA; have HKA := HKAZ; clear HKAZ)); (try (have HKBZ := Lib.hid (HKB.out.below hb3); clear HKB; have HKB := HKBZ; clear HKBZ)); (try (have HYZ := Lib.hid (HY.out.below hb3); clear HY; have HY := HYZ; clear HYZ)); (try (have HYBZ := Lib.hid (HYB.out.below hb3); clear HYB; have HYB := HYBZ; clear HYBZ)); (try (have HWZ := Lib.hid (HW.out.below hb3); clear HW; have HW := HWZ; clear HWZ)); (try (have HWBZ := Lib.hid (HWB.out.below hb3); clear HWB; have HWB := HWBZ; clear HWBZ)); have HX := Lib.hid hx; clear hx hb3)
  have hal := bal (Below.refl w3.heap.size w3) (.cells #[.slice aw 3 cw, .slice ae 0 ce] 30)
  have HBZ := Lib.hid (bon HB.out hal); clear HB; have HB := HBZ; clear HBZ; (try (have HPZ := Lib.hid (HP.out.below hal); clear HP; have HP := HPZ; clear HPZ)); (try (have HPBZ := Lib.hid (HPB.out.below hal); clear HPB; have HPB := HPBZ; clear HPBZ)); (try (have HMZ := Lib.hid (HM.out.below hal); clear HM; have HM := HMZ; clear HMZ)); (try (have HXZ := Lib.hid (HX.out.below hal); clear HX; have HX := HXZ; clear HXZ)); (try (have HXBZ := Lib.hid (HXB.out.below hal); clear HXB; have HXB := HXBZ; clear HXBZ)); (try (have HSZ := Lib.hid (HS.out.below hal); clear HS; have HS := HSZ; clear HSZ)); (try (have HKAZ := Lib.hid (HKA.out.below hal); clear HKA; have HKA := HKAZ; clear HKAZ)); (try (have HKBZ := Lib.hid (HKB.out.below hal); clear HKB; have HKB := HKBZ; clear HKBZ)); (try (have HYZ := Lib.hid (HY.out.below hal); clear HY; have HY := HYZ; clear HYZ)); (try (have HYBZ := Lib.hid (HYB.out.below hal); clear HYB; have HYB := HYBZ; clear HYBZ)); (try (have HWZ := Lib.hid (HW.out.below hal); clear HW; have HW := HWZ; clear HWZ)); (try (have HWBZ := Lib.hid (HWB.out.below hal); clear HWB; have HWB := HWBZ; clear HWBZ))
  have HXB := Lib.hid (Blk.new w3 [.slice aw 3 cw, .slice ae 0 ce] 30)
  clear hal
  generalize w3.alloc (.cells #[.slice aw 3 cw, .slice ae 0 ce] 30) = W3 at *
  generalize w3.heap.size = xb at *
  (try (clear kp)); (try (clear kx)); (try (clear ky)); (try (clear kw)); (try (have kp := HPB.out.cell)); (try (have kx := HXB.out.cell)); (try (have ky := HYB.out.cell)); (try (have kw := HWB.out.cell))
  go_upto_region 4 with (go_at_call 15; (with_reducible refine (exC_call HP.out HM.out HX.out).mono ?_); rintro e w4 ⟨rfl, hb4⟩; have HBZ := Lib.hid (bon HB.out hb4); clear HB; have HB := HBZ; clear HBZ; (try (have HPZ := Lib.hid (HP.out.below hb4); clear HP; have HP := HPZ; clear HPZ)); (try (have HPBZ := Lib.hid (HPB.out.below hb4); clear HPB; have HPB := HPBZ; clear HPBZ)); (try (have HMZ := Lib.hid (HM.out.below hb4); clear HM; have HM := HMZ; clear HMZ)); (try (have HXZ := Lib.hid (HX.out.below hb4); clear HX; have HX := HXZ; clear HXZ)); (try (have HXBZ := Lib.hid (HXB.out.below hb4); clear HXB; have HXB := HXBZ; clear HXBZ)); (try (have HSZ := Lib.hid (HS.out.below hb4); clear HS; have HS := HSZ; clear HSZ)); (try (have HKAZ := Lib.hid (HKA.out.below hb4); clear HKA; have HKA := HKAZ; clear HKAZ)); (try (have HKBZ := Lib.hid (HKB.out.below hb4); clear HKB; have HKB := HKBZ; clear HKBZ)); (try (have HYZ := Lib.hid (HY.out.below hb4); clear HY; have HY := HYZ; clear HYZ)); (try (have HYBZ := Lib.hid (HYB.out.below hb4); clear HYB; have HYB := HYBZ; clear HYBZ)); (try (have HWZ := Lib.hid (HW.out.below hb4); clear HW; have HW := HWZ; clear HWZ)); (try (have HWBZ := Lib.hid (HWB.out.below hb4); clear HWB; have HWB := HWBZ; clear HWBZ)); clear hb4; (try (clear kp)); (try (clear kx)); (try (clear ky)); (try (clear kw)); (try (have kp := HPB.out.cell)); (try (have kx := HXB.out.cell)); (try (have ky := HYB.out.cell)); (try (have kw := HWB.out.cell)))
  go_upto_region 5 with (go_at_call 16; (with_reducible refine (exS_call HP.out HM.out HX.out).mono ?_); rintro e w5 ⟨as5, cs5, rfl, hs, hb5⟩; have HBZ := Lib.hid (bon HB.out hb5); clear HB; have HB := HBZ; clear HBZ; (try (have HPZ := Lib.hid (HP.out.below hb5); clear HP; have HP := HPZ; clear HPZ)); (try (have HPBZ := Lib.hid (HPB.out.below hb5); clear HPB; have HPB := HPBZ; clear HPBZ)); (try (have HMZ := Lib.hid (HM.out.below hb5); clear HM; have HM := HMZ; clear HMZ)); (try (have HXZ := Lib.hid (HX.out.below hb5); clear HX; have HX := HXZ; clear HXZ)); (try (have HXBZ := Lib.hid (HXB.out.below hb5); clear HXB; have HXB := HXBZ; clear HXBZ)); (try (have HSZ := Lib.hid (HS.out.below hb5); clear HS; have HS := HSZ; clear HSZ)); (try (have HKAZ := Lib.hid (HKA.out.below hb5); clear HKA; have HKA := HKAZ; clear HKAZ)); (try (have HKBZ := Lib.hid (HKB.out.below hb5); clear HKB; have HKB := HKBZ; clear HKBZ)); (try (have HYZ := Lib.hid (HY.out.below hb5); clear HY; have HY := HYZ; clear HYZ)); (try (have HYBZ := Lib.hid (HYB.out.below hb5); clear HYB; have HYB := HYBZ; clear HYBZ)); (try (have HWZ := Lib.hid (HW.out.below hb5); clear HW; have HW := HWZ; clear HWZ)); (try (have HWBZ := Lib.hid (HWB.out.below hb5); clear HWB; have HWB := HWBZ; clear HWBZ)); have HS := Lib.hid hs; clear hs hb5; (try (clear kp)); (try (clear kx)); (try (clear ky)); (try (clear kw)); (try (have kp := HPB.out.cell)); (try (have kx := HXB.out.cell)); (try (have ky := HYB.out.cell)); (try (have kw := HWB.out.cell)))
  go_upto_region 6 with (go_at_call 17; (with_reducible refine (exB4 HP.out HM.out).mono ?_); rintro e w6 ⟨ab6, cb6, rfl, hs, hb6⟩; have HBZ := Lib.hid (bon HB.out hb6); clear HB; have HB := HBZ; clear HBZ; (try (have HPZ := Lib.hid (HP.out.below hb6); clear HP; have HP := HPZ; clear HPZ)); (try (have HPBZ := Lib.hid (HPB.out.below hb6); clear HPB; have HPB := HPBZ; clear HPBZ)); (try (have HMZ := Lib.hid (HM.out.below hb6); clear HM; have HM := HMZ; clear HMZ)); (try (have HXZ := Lib.hid (HX.out.below hb6); clear HX; have HX := HXZ; clear HXZ)); (try (have HXBZ := Lib.hid (HXB.out.below hb6); clear HXB; have HXB := HXBZ; clear HXBZ)); (try (have HSZ := Lib.hid (HS.out.below hb6); clear HS; have HS := HSZ; clear HSZ)); (try (have HKAZ := Lib.hid (HKA.out.below hb6); clear HKA; have HKA := HKAZ; clear HKAZ)); (try (have HKBZ := Lib.hid (HKB.out.below hb6); clear HKB; have HKB := HKBZ; clear HKBZ)); (try (have HYZ := Lib.hid (HY.out.below hb6); clear HY; have HY := HYZ; clear HYZ)); (try (have HYBZ := Lib.hid (HYB.out.below hb6); clear HYB; have HYB := HYBZ; clear HYBZ)); (try (have HWZ := Lib.hid (HW.out.below hb6); clear HW; have HW := HWZ; clear HWZ)); (try (have HWBZ := Lib.hid (HWB.out.below hb6); clear HWB; have HWB := HWBZ; clear HWBZ)); have HKA := Lib.hid hs; clear hs hb6; (try (clear kp)); (try (clear kx)); (try (clear ky)); (try (clear kw)); (try (have kp := HPB.out.cell)); (try (have kx := HXB.out.cell)); (try (have ky := HYB.out.cell)); (try (have kw := HWB.out.cell)))
  go_upto_region 7 with (go_at_call 17; (with_reducible refine (exB2 HP.out HM.out).mono ?_); rintro e w7 ⟨ab7, cb7, rfl, hs, hb7⟩; have HBZ := Lib.hid (bon HB.out hb7); clear HB; have HB := HBZ; clear HBZ; (try (have HPZ := Lib.hid (HP.out.below hb7); clear HP; have HP := HPZ; clear HPZ)); (try (have HPBZ := Lib.hid (HPB.out.below hb7); clear HPB; have HPB := HPBZ; clear HPBZ)); (try (have HMZ := Lib.hid (HM.out.below hb7); clear HM; have HM := HMZ; clear HMZ)); (try (have HXZ := Lib.hid (HX.out.below hb7); clear HX; have HX := HXZ; clear HXZ)); (try (have HXBZ := Lib.hid (HXB.out.below hb7); clear HXB; have HXB := HXBZ; clear HXBZ)); (try (have HSZ := Lib.hid (HS.out.below hb7); clear HS; have HS := HSZ; clear HSZ)); (try (have HKAZ := Lib.hid (HKA.out.below hb7); clear HKA; have HKA := HKAZ; clear HKAZ)); (try (have HKBZ := Lib.hid (HKB.out.below hb7); clear HKB; have HKB := HKBZ; clear HKBZ)); (try (have HYZ := Lib.hid (HY.out.below hb7); clear HY; have HY := HYZ; clear HYZ)); (try (have HYBZ := Lib.hid (HYB.out.below hb7); clear HYB; have HYB := HYBZ; clear HYBZ)); (try (have HWZ := Lib.hid (HW.out.below hb7); clear HW; have HW := HWZ; clear HWZ)); (try (have HWBZ := Lib.hid (HWB.out.below hb7); clear HWB; have HWB := HWBZ; clear HWBZ)); have HKB := Lib.hid hs; clear hs hb7; (try (clear kp)); (try (clear kx)); (try (clear ky)); (try (clear kw)); (try (have kp := HPB.out.cell)); (try (have kx := HXB.out.cell)); (try (have ky := HYB.out.cell)); (try (have kw := HWB.out.cell)))
  go_upto_region 8 with (go_at_call 17; (with_reducible refine (exB6 HP.out HM.out).mono ?_); rintro e w8 ⟨ab8, cb8, rfl, hs, hb8⟩; have HBZ := Lib.hid (bon HB.out hb8); clear HB; have HB := HBZ; clear HBZ; (try (have HPZ := Lib.hid (HP.out.below hb8); clear HP; have HP := HPZ; clear HPZ)); (try (have HPBZ := Lib.hid (HPB.out.below hb8); clear HPB; have HPB := HPBZ; clear HPBZ)); (try (have HMZ := Lib.hid (HM.out.below hb8); clear HM; have HM := HMZ; clear HMZ)); (try (have HXZ := Lib.hid (HX.out.below hb8); clear HX; have HX := HXZ; clear HXZ)); (try (have HXBZ := Lib.hid (HXB.out.below hb8); clear HXB; have HXB := HXBZ; clear HXBZ)); (try (have HSZ := Lib.hid (HS.out.below hb8); clear HS; have HS := HSZ; clear HSZ)); (try (have HKAZ := Lib.hid (HKA.out.below hb8); clear HKA; have HKA := HKAZ; clear HKAZ)); (try (have HKBZ := Lib.hid (HKB.out.below hb8); clear HKB; have HKB := HKBZ; clear HKBZ)); (try (have HYZ := Lib.hid (HY.out.below hb8); clear HY; have HY := HYZ; clear HYZ)); (try (have HYBZ := Lib.hid (HYB.out.below hb8); clear HYB; have HYB := HYBZ; clear HYBZ)); (try (have HWZ := Lib.hid (HW.out.below hb8); clear HW; have HW := HWZ; clear HWZ)); (try (have HWBZ := Lib.hid (HWB.out.below hb8); clear HWB; have HWB := HWBZ; clear HWBZ)); clear hs hb8; (try (clear kp)); (try (clear kx)); (try (clear ky)); (try (clear kw)); (try (have kp := HPB.out.cell)); (try (have kx := HXB.out.cell)); (try (have ky := HYB.out.cell)); (try (have kw := HWB.out.cell)))
  go_upto_region 9 with (go_at_call 14; (with_reducible refine (ex0_call HP.out).mono ?_); rintro e w9 ⟨aw0, cw0, ae0, ce0, rfl, hx, hb9⟩; have HBZ := Lib.hid (bon HB.out hb9); clear HB; have HB := HBZ; clear HBZ; (try (have HPZ := Lib.hid (HP.out.below hb9); clear HP; have HP := HPZ; clear HPZ)); (try (have HPBZ := Lib.hid (HPB.out.below hb9); clear HPB; have HPB := HPBZ; clear HPBZ)); (try (have HMZ := Lib.hid (HM.out.below hb9); clear HM; have HM := HMZ; clear HMZ)); (try (have HXZ := Lib.hid (HX.out.below hb9); clear HX; have HX := HXZ; clear HXZ)); (try (have HXBZ := Lib.hid (HXB.out.below hb9); clear HXB; have HXB := HXBZ; clear HXBZ)); (try (have HSZ := Lib.hid (HS.out.below hb9); clear HS; have HS := HSZ; clear HSZ)); (try (have HKAZ := Lib.hid (HKA.out.below hb9); clear HKA; have HKA := HKAZ; clear HKAZ)); (try (have HKBZ := Lib.hid (HKB.out.below hb9); clear HKB; have HKB := HKBZ; clear HKBZ)); (try (have HYZ := Lib.hid (HY.out.below hb9); clear HY; have HY := HYZ; clear HYZ)); (try (have HYBZ := Lib.hid (HYB.out.below hb9); clear HYB; have HYB := HYBZ; clear HYBZ)); (try (have HWZ := Lib.hid (HW.out.below hb9); clear HW; have HW := HWZ; clear HWZ)); (try (have HWBZ := Lib.hid (HWB.out.below hb9); clear HWB; have HWB := HWBZ; clear HWBZ)); clear hx hb9)
  have hal := bal (Below.refl w9.heap.size w9) (.cells #[.slice aw0 0 cw0, .slice ae0 0 ce0] 30)
  have HBZ := Lib.hid (bon HB.out hal); clear HB; have HB := HBZ; clear HBZ; (try (have HPZ := Lib.hid (HP.out.below hal); clear HP; have HP := HPZ; clear HPZ)); (try (have HPBZ := Lib.hid (HPB.out.below hal); clear HPB; have HPB := HPBZ; clear HPBZ)); (try (have HMZ := Lib.hid (HM.out.below hal); clear HM; have HM := HMZ; clear HMZ)); (try (have HXZ := Lib.hid (HX.out.below hal); clear HX; have HX := HXZ; clear HXZ)); (try (have HXBZ := Lib.hid (HXB.out.below hal); clear HXB; have HXB := HXBZ; clear HXBZ)); (try (have HSZ := Lib.hid (HS.out.below hal); clear HS; have HS := HSZ; clear HSZ)); (try (have HKAZ := Lib.hid (HKA.out.below hal); clear HKA; have HKA := HKAZ; clear HKAZ)); (try (have HKBZ := Lib.hid (HKB.out.below hal); clear HKB; have HKB := HKBZ; clear HKBZ)); (try (have HYZ := Lib.hid (HY.out.below hal); clear HY; have HY := HYZ; clear HYZ)); (try (have HYBZ := Lib.hid (HYB.out.below hal); clear HYB; have HYB := HYBZ; clear HYBZ)); (try (have HWZ := Lib.hid (HW.out.below hal); clear HW; have HW := HWZ; clear HWZ)); (try (have HWBZ := Lib.hid (HWB.out.below hal); clear HWB; have HWB := HWBZ; clear HWBZ))
  clear hal
  generalize w9.alloc (.cells #[.slice aw0 0 cw0, .slice ae0 0 ce0] 30) = w6 at *
  generalize w9.heap.size = nb at *
  (try (clear kp)); (try (clear kx)); (try (clear ky)); (try (clear kw)); (try (have kp := HPB.out.cell)); (try (have kx := HXB.out.cell)); (try (have ky := HYB.out.cell)); (try (have kw := HWB.out.cell))
  go_wp2_with fail
  generalize hW : World.alloc _ (.cells #[.bool false, .slice (some ⟨w6.heap.size, 0, none⟩) 2 2, .bool false, .int .i64 0, .slice none 0 0, .slice none 0 0, .bool false, .slice (some ⟨w6.heap.size + 1, 0, none⟩) 1 1, .bool false, .int .i64 0, .slice (some ⟨w6.heap.size + 1 + 1, 0, none⟩) 1 1, .slice none 0 0, .bool false, .slice (some ⟨w6.heap.size + 1 + 1 + 1, 0, none⟩) 1 1, .bool false, .int .i64 0, .slice (some ⟨w6.heap.size + 1 + 1 + 1 + 1, 0, none⟩) 1 1, .slice none 0 0] 60) = W9
  have b0 : Blk W9 (w6.heap.size) ([1, 2].map (Value.int .i64)) 3 := by rw [← hW]; (repeat first | (refine Blk.newAt _ _ _ ?_; first | rfl | (simp only [World.size_alloc]; done) | (simp only [World.size_alloc]; omega)) | refine Blk.alloc ?_ _)
  have b1 : Blk W9 (w6.heap.size + 1) ([1].map (Value.int .i64)) 3 := by rw [← hW]; (repeat first | (refine Blk.newAt _ _ _ ?_; first | rfl | (simp only [World.size_alloc]; done) | (simp only [World.size_alloc]; omega)) | refine Blk.alloc ?_ _)
  have b2 : Blk W9 (w6.heap.size + 1 + 1) ([2].map (Value.int .i64)) 3 := by rw [← hW]; (repeat first | (refine Blk.newAt _ _ _ ?_; first | rfl | (simp only [World.size_alloc]; done) | (simp only [World.size_alloc]; omega)) | refine Blk.alloc ?_ _)
  have b3 : Blk W9 (w6.heap.size + 1 + 1 + 1) ([2].map (Value.int .i64)) 3 := by rw [← hW]; (repeat first | (refine Blk.newAt _ _ _ ?_; first | rfl | (simp only [World.size_alloc]; done) | (simp only [World.size_alloc]; omega)) | refine Blk.alloc ?_ _)
  have b4 : Blk W9 (w6.heap.size + 1 + 1 + 1 + 1) ([1].map (Value.int .i64)) 3 := by rw [← hW]; (repeat first | (refine Blk.newAt _ _ _ ?_; first | rfl | (simp only [World.size_alloc]; done) | (simp only [World.size_alloc]; omega)) | refine Blk.alloc ?_ _)
  have br : Blk W9 (w6.heap.size + 1 + 1 + 1 + 1 + 1) ([((⟨false, [1, 2], false, 0, [], []⟩ : GR), Value.slice (some ⟨w6.heap.size, 0, none⟩) 2 2, Value.slice none 0 0, Value.slice none 0 0), ((⟨false, [1], false, 0, [2], []⟩ : GR), Value.slice (some ⟨w6.heap.size + 1, 0, none⟩) 1 1, Value.slice (some ⟨w6.heap.size + 1 + 1, 0, none⟩) 1 1, Value.slice none 0 0), ((⟨false, [2], false, 0, [1], []⟩ : GR), Value.slice (some ⟨w6.heap.size + 1 + 1 + 1, 0, none⟩) 1 1, Value.slice (some ⟨w6.heap.size + 1 + 1 + 1 + 1, 0, none⟩) 1 1, Value.slice none 0 0)].flatMap cells6) 60 := by rw [← hW]; (repeat first | (refine Blk.newAt _ _ _ ?_; first | rfl | (simp only [World.size_alloc]; done) | (simp only [World.size_alloc]; omega)) | refine Blk.alloc ?_ _)
  have hR : RulesIs W9 (.slice (some ⟨w6.heap.size + 1 + 1 + 1 + 1 + 1, 0, none⟩) 3 3) [⟨false, [1, 2], false, 0, [], []⟩, ⟨false, [1], false, 0, [2], []⟩, ⟨false, [2], false, 0, [1], []⟩] := br.rules (fun q hq => by
    simp only [List.mem_cons, List.not_mem_nil, or_false] at hq
    rcases hq with rfl | rfl | rfl
    · exact ⟨b0.intsL (by decide), nil_ints _, nil_ints _, (show InI 0 from inI_small (by decide))⟩
    · exact ⟨b1.intsL (by decide), b2.intsL (by decide), nil_ints _, (show InI 0 from inI_small (by decide))⟩
    · exact ⟨b3.intsL (by decide), b4.intsL (by decide), nil_ints _, (show InI 0 from inI_small (by decide))⟩) (by simp)
  have hb9 : Below w6.heap.size w6 W9 := by rw [← hW]; repeat first | exact Below.refl _ _ | refine bal ?_ _
  have HR := Lib.hid hR
  clear hW hR br b0 b1 b2 b3 b4
  (have HBZ := Lib.hid (bon HB.out hb9); clear HB; have HB := HBZ; clear HBZ; (try (have HPZ := Lib.hid (HP.out.below hb9); clear HP; have HP := HPZ; clear HPZ)); (try (have HPBZ := Lib.hid (HPB.out.below hb9); clear HPB; have HPB := HPBZ; clear HPBZ)); (try (have HMZ := Lib.hid (HM.out.below hb9); clear HM; have HM := HMZ; clear HMZ)); (try (have HXZ := Lib.hid (HX.out.below hb9); clear HX; have HX := HXZ; clear HXZ)); (try (have HXBZ := Lib.hid (HXB.out.below hb9); clear HXB; have HXB := HXBZ; clear HXBZ)); (try (have HSZ := Lib.hid (HS.out.below hb9); clear HS; have HS := HSZ; clear HSZ)); (try (have HKAZ := Lib.hid (HKA.out.below hb9); clear HKA; have HKA := HKAZ; clear HKAZ)); (try (have HKBZ := Lib.hid (HKB.out.below hb9); clear HKB; have HKB := HKBZ; clear HKBZ)); (try (have HYZ := Lib.hid (HY.out.below hb9); clear HY; have HY := HYZ; clear HYZ)); (try (have HYBZ := Lib.hid (HYB.out.below hb9); clear HYB; have HYB := HYBZ; clear HYBZ)); (try (have HWZ := Lib.hid (HW.out.below hb9); clear HW; have HW := HWZ; clear HWZ)); (try (have HWBZ := Lib.hid (HWB.out.below hb9); clear HWB; have HWB := HWBZ; clear HWBZ)))
  clear hb9
  refine (with_any 2 (by decide) _ eyR W9 HR.out).mono ?_
  rintro e w10 ⟨rfl, hn, hb10⟩
  have HQ := Lib.hid (with_prog (by decide) hn (HR.out.below hb10))
  (have HBZ := Lib.hid (bon HB.out hb10); clear HB; have HB := HBZ; clear HBZ; (try (have HPZ := Lib.hid (HP.out.below hb10); clear HP; have HP := HPZ; clear HPZ)); (try (have HPBZ := Lib.hid (HPB.out.below hb10); clear HPB; have HPB := HPBZ; clear HPBZ)); (try (have HMZ := Lib.hid (HM.out.below hb10); clear HM; have HM := HMZ; clear HMZ)); (try (have HXZ := Lib.hid (HX.out.below hb10); clear HX; have HX := HXZ; clear HXZ)); (try (have HXBZ := Lib.hid (HXB.out.below hb10); clear HXB; have HXB := HXBZ; clear HXBZ)); (try (have HSZ := Lib.hid (HS.out.below hb10); clear HS; have HS := HSZ; clear HSZ)); (try (have HKAZ := Lib.hid (HKA.out.below hb10); clear HKA; have HKA := HKAZ; clear HKAZ)); (try (have HKBZ := Lib.hid (HKB.out.below hb10); clear HKB; have HKB := HKBZ; clear HKBZ)); (try (have HYZ := Lib.hid (HY.out.below hb10); clear HY; have HY := HYZ; clear HYZ)); (try (have HYBZ := Lib.hid (HYB.out.below hb10); clear HYB; have HYB := HYBZ; clear HYBZ)); (try (have HWZ := Lib.hid (HW.out.below hb10); clear HW; have HW := HWZ; clear HWZ)); (try (have HWBZ := Lib.hid (HWB.out.below hb10); clear HWB; have HWB := HWBZ; clear HWBZ)))
  clear hn hb10 HR
  generalize w6.heap.size + 1 + 1 + 1 + 1 + 1 = rb at *
  generalize W9.heap.size + 1 = sb at *
  have hal := bal (Below.refl w10.heap.size w10) (.cells #[.int .i64 1, .int .i64 2] 3)
  have HM2 : Hid (Ints (w10.alloc (.cells #[.int .i64 1, .int .i64 2] 3)) (.slice (some ⟨w10.heap.size, 0, none⟩) 2 2) [1, 2]) := Lib.hid (Blk.intsL (l := [1, 2]) (Blk.new w10 [.int .i64 1, .int .i64 2] 3) (by decide))
  have HQ2 := Lib.hid (HQ.out.below hal)
  (have HBZ := Lib.hid (bon HB.out hal); clear HB; have HB := HBZ; clear HBZ; (try (have HPZ := Lib.hid (HP.out.below hal); clear HP; have HP := HPZ; clear HPZ)); (try (have HPBZ := Lib.hid (HPB.out.below hal); clear HPB; have HPB := HPBZ; clear HPBZ)); (try (have HMZ := Lib.hid (HM.out.below hal); clear HM; have HM := HMZ; clear HMZ)); (try (have HXZ := Lib.hid (HX.out.below hal); clear HX; have HX := HXZ; clear HXZ)); (try (have HXBZ := Lib.hid (HXB.out.below hal); clear HXB; have HXB := HXBZ; clear HXBZ)); (try (have HSZ := Lib.hid (HS.out.below hal); clear HS; have HS := HSZ; clear HSZ)); (try (have HKAZ := Lib.hid (HKA.out.below hal); clear HKA; have HKA := HKAZ; clear HKAZ)); (try (have HKBZ := Lib.hid (HKB.out.below hal); clear HKB; have HKB := HKBZ; clear HKBZ)); (try (have HYZ := Lib.hid (HY.out.below hal); clear HY; have HY := HYZ; clear HYZ)); (try (have HYBZ := Lib.hid (HYB.out.below hal); clear HYB; have HYB := HYBZ; clear HYBZ)); (try (have HWZ := Lib.hid (HW.out.below hal); clear HW; have HW := HWZ; clear HWZ)); (try (have HWBZ := Lib.hid (HWB.out.below hal); clear HWB; have HWB := HWBZ; clear HWBZ)))
  clear hal HQ
  (try (clear kp)); (try (clear kx)); (try (clear ky)); (try (clear kw)); (try (have kp := HPB.out.cell)); (try (have kx := HXB.out.cell)); (try (have ky := HYB.out.cell)); (try (have kw := HWB.out.cell))
  go_upto_region 10 with (go_at_call 14; (with_reducible refine (eyX_call HQ2.out HM2.out).mono ?_); rintro e w11 ⟨awy, cwy, aey, cey, rfl, hy, hb11⟩; have HBZ := Lib.hid (bon HB.out hb11); clear HB; have HB := HBZ; clear HBZ; (try (have HPZ := Lib.hid (HP.out.below hb11); clear HP; have HP := HPZ; clear HPZ)); (try (have HPBZ := Lib.hid (HPB.out.below hb11); clear HPB; have HPB := HPBZ; clear HPBZ)); (try (have HMZ := Lib.hid (HM.out.below hb11); clear HM; have HM := HMZ; clear HMZ)); (try (have HXZ := Lib.hid (HX.out.below hb11); clear HX; have HX := HXZ; clear HXZ)); (try (have HXBZ := Lib.hid (HXB.out.below hb11); clear HXB; have HXB := HXBZ; clear HXBZ)); (try (have HSZ := Lib.hid (HS.out.below hb11); clear HS; have HS := HSZ; clear HSZ)); (try (have HKAZ := Lib.hid (HKA.out.below hb11); clear HKA; have HKA := HKAZ; clear HKAZ)); (try (have HKBZ := Lib.hid (HKB.out.below hb11); clear HKB; have HKB := HKBZ; clear HKBZ)); (try (have HYZ := Lib.hid (HY.out.below hb11); clear HY; have HY := HYZ; clear HYZ)); (try (have HYBZ := Lib.hid (HYB.out.below hb11); clear HYB; have HYB := HYBZ; clear HYBZ)); (try (have HWZ := Lib.hid (HW.out.below hb11); clear HW; have HW := HWZ; clear HWZ)); (try (have HWBZ := Lib.hid (HWB.out.below hb11); clear HWB; have HWB := HWBZ; clear HWBZ)); have HY := Lib.hid hy; clear hy hb11)
  have hal := bal (Below.refl w11.heap.size w11) (.cells #[.slice awy 0 cwy, .slice aey 2 cey] 30)
  (have HBZ := Lib.hid (bon HB.out hal); clear HB; have HB := HBZ; clear HBZ; (try (have HPZ := Lib.hid (HP.out.below hal); clear HP; have HP := HPZ; clear HPZ)); (try (have HPBZ := Lib.hid (HPB.out.below hal); clear HPB; have HPB := HPBZ; clear HPBZ)); (try (have HMZ := Lib.hid (HM.out.below hal); clear HM; have HM := HMZ; clear HMZ)); (try (have HXZ := Lib.hid (HX.out.below hal); clear HX; have HX := HXZ; clear HXZ)); (try (have HXBZ := Lib.hid (HXB.out.below hal); clear HXB; have HXB := HXBZ; clear HXBZ)); (try (have HSZ := Lib.hid (HS.out.below hal); clear HS; have HS := HSZ; clear HSZ)); (try (have HKAZ := Lib.hid (HKA.out.below hal); clear HKA; have HKA := HKAZ; clear HKAZ)); (try (have HKBZ := Lib.hid (HKB.out.below hal); clear HKB; have HKB := HKBZ; clear HKBZ)); (try (have HYZ := Lib.hid (HY.out.below hal); clear HY; have HY := HYZ; clear HYZ)); (try (have HYBZ := Lib.hid (HYB.out.below hal); clear HYB; have HYB := HYBZ; clear HYBZ)); (try (have HWZ := Lib.hid (HW.out.below hal); clear HW; have HW := HWZ; clear HWZ)); (try (have HWBZ := Lib.hid (HWB.out.below hal); clear HWB; have HWB := HWBZ; clear HWBZ)))
  have HYB := Lib.hid (Blk.new w11 [.slice awy 0 cwy, .slice aey 2 cey] 30)
  clear hal HM2 HQ2
  generalize w11.alloc (.cells #[.slice awy 0 cwy, .slice aey 2 cey] 30) = W11 at *
  generalize w11.heap.size = yb at *
  (try (clear kp)); (try (clear kx)); (try (clear ky)); (try (clear kw)); (try (have kp := HPB.out.cell)); (try (have kx := HXB.out.cell)); (try (have ky := HYB.out.cell)); (try (have kw := HWB.out.cell))
  go_upto_region 11 with fail
  have hal := bal (bal (Below.refl W11.heap.size W11) (.cells #[.int .i64 1, .int .i64 0, .int .i64 1, .int .i64 3, .int .i64 1, .int .i64 2, .int .i64 5, .int .i64 2, .int .i64 3] 49)) (.cells #[.slice (some ⟨W11.heap.size, 0, none⟩) 3 3, .slice none 0 0] 30)
  have HW := Lib.hid (ex_lit ((Blk.new W11 [.int .i64 1, .int .i64 0, .int .i64 1, .int .i64 3, .int .i64 1, .int .i64 2, .int .i64 5, .int .i64 2, .int .i64 3] 49).alloc (.cells #[.slice (some ⟨W11.heap.size, 0, none⟩) 3 3, .slice none 0 0] 30)))
  have HWB := Lib.hid (Blk.newAt (W11.alloc (.cells #[.int .i64 1, .int .i64 0, .int .i64 1, .int .i64 3, .int .i64 1, .int .i64 2, .int .i64 5, .int .i64 2, .int .i64 3] 49)) [.slice (some ⟨W11.heap.size, 0, none⟩) 3 3, .slice none 0 0] 30 (show W11.heap.size + 1 = _ by simp))
  have HBZ := Lib.hid (bon HB.out hal); clear HB; have HB := HBZ; clear HBZ
  have HPZ := Lib.hid (HP.out.below hal); clear HP; have HP := HPZ; clear HPZ
  have HPBZ := Lib.hid (HPB.out.below hal); clear HPB; have HPB := HPBZ; clear HPBZ
  have HMZ := Lib.hid (HM.out.below hal); clear HM; have HM := HMZ; clear HMZ
  have HXZ := Lib.hid (HX.out.below hal); clear HX; have HX := HXZ; clear HXZ
  have HXBZ := Lib.hid (HXB.out.below hal); clear HXB; have HXB := HXBZ; clear HXBZ
  have HSZ := Lib.hid (HS.out.below hal); clear HS; have HS := HSZ; clear HSZ
  have HKAZ := Lib.hid (HKA.out.below hal); clear HKA; have HKA := HKAZ; clear HKAZ
  have HKBZ := Lib.hid (HKB.out.below hal); clear HKB; have HKB := HKBZ; clear HKBZ
  have HYZ := Lib.hid (HY.out.below hal); clear HY; have HY := HYZ; clear HYZ
  have HYBZ := Lib.hid (HYB.out.below hal); clear HYB; have HYB := HYBZ; clear HYBZ
  clear hal
  generalize (W11.alloc (.cells #[.int .i64 1, .int .i64 0, .int .i64 1, .int .i64 3, .int .i64 1, .int .i64 2, .int .i64 5, .int .i64 2, .int .i64 3] 49)).alloc (.cells #[.slice (some ⟨W11.heap.size, 0, none⟩) 3 3, .slice none 0 0] 30) = W12 at *
  generalize W11.heap.size + 1 = wb at *
  generalize W11.heap.size = wr0 at *
  (try (clear kp)); (try (clear kx)); (try (clear ky)); (try (clear kw)); (try (have kp := HPB.out.cell)); (try (have kx := HXB.out.cell)); (try (have ky := HYB.out.cell)); (try (have kw := HWB.out.cell))
  go_wp2_with (first
    | (go_at_call 18; (with_reducible refine (exT_call HP.out HX.out).mono ?_); rintro e w18 ⟨rfl, hb18⟩; have HBZ := Lib.hid (bon HB.out hb18); clear HB; have HB := HBZ; clear HBZ; (try (have HPZ := Lib.hid (HP.out.below hb18); clear HP; have HP := HPZ; clear HPZ)); (try (have HPBZ := Lib.hid (HPB.out.below hb18); clear HPB; have HPB := HPBZ; clear HPBZ)); (try (have HMZ := Lib.hid (HM.out.below hb18); clear HM; have HM := HMZ; clear HMZ)); (try (have HXZ := Lib.hid (HX.out.below hb18); clear HX; have HX := HXZ; clear HXZ)); (try (have HXBZ := Lib.hid (HXB.out.below hb18); clear HXB; have HXB := HXBZ; clear HXBZ)); (try (have HSZ := Lib.hid (HS.out.below hb18); clear HS; have HS := HSZ; clear HSZ)); (try (have HKAZ := Lib.hid (HKA.out.below hb18); clear HKA; have HKA := HKAZ; clear HKAZ)); (try (have HKBZ := Lib.hid (HKB.out.below hb18); clear HKB; have HKB := HKBZ; clear HKBZ)); (try (have HYZ := Lib.hid (HY.out.below hb18); clear HY; have HY := HYZ; clear HYZ)); (try (have HYBZ := Lib.hid (HYB.out.below hb18); clear HYB; have HYB := HYBZ; clear HYBZ)); (try (have HWZ := Lib.hid (HW.out.below hb18); clear HW; have HW := HWZ; clear HWZ)); (try (have HWBZ := Lib.hid (HWB.out.below hb18); clear HWB; have HWB := HWBZ; clear HWBZ)); clear hb18; (try (clear kp)); (try (clear kx)); (try (clear ky)); (try (clear kw)); (try (have kp := HPB.out.cell)); (try (have kx := HXB.out.cell)); (try (have ky := HYB.out.cell)); (try (have kw := HWB.out.cell)))
    | (go_at_call 20; (with_reducible refine (same_t HX.out HW.out).mono ?_); rintro e w13 ⟨rfl, hb13⟩; have HBZ := Lib.hid (bon HB.out hb13); clear HB; have HB := HBZ; clear HBZ; (try (have HPZ := Lib.hid (HP.out.below hb13); clear HP; have HP := HPZ; clear HPZ)); (try (have HPBZ := Lib.hid (HPB.out.below hb13); clear HPB; have HPB := HPBZ; clear HPBZ)); (try (have HMZ := Lib.hid (HM.out.below hb13); clear HM; have HM := HMZ; clear HMZ)); (try (have HXZ := Lib.hid (HX.out.below hb13); clear HX; have HX := HXZ; clear HXZ)); (try (have HXBZ := Lib.hid (HXB.out.below hb13); clear HXB; have HXB := HXBZ; clear HXBZ)); (try (have HSZ := Lib.hid (HS.out.below hb13); clear HS; have HS := HSZ; clear HSZ)); (try (have HKAZ := Lib.hid (HKA.out.below hb13); clear HKA; have HKA := HKAZ; clear HKAZ)); (try (have HKBZ := Lib.hid (HKB.out.below hb13); clear HKB; have HKB := HKBZ; clear HKBZ)); (try (have HYZ := Lib.hid (HY.out.below hb13); clear HY; have HY := HYZ; clear HYZ)); (try (have HYBZ := Lib.hid (HYB.out.below hb13); clear HYB; have HYB := HYBZ; clear HYBZ)); (try (have HWZ := Lib.hid (HW.out.below hb13); clear HW; have HW := HWZ; clear HWZ)); (try (have HWBZ := Lib.hid (HWB.out.below hb13); clear HWB; have HWB := HWBZ; clear HWBZ)); clear hb13; (try (clear kp)); (try (clear kx)); (try (clear ky)); (try (clear kw)); (try (have kp := HPB.out.cell)); (try (have kx := HXB.out.cell)); (try (have ky := HYB.out.cell)); (try (have kw := HWB.out.cell)))
    | (go_at_call 20; (with_reducible refine (same_t (HY.out.below (bal (Below.refl _ _) _)) (ey_lit _)).mono ?_); rintro e w17 ⟨rfl, hb17⟩; have hbz := bon (bal (Below.refl _ _) _) hb17; have HBZ := Lib.hid (bon HB.out hbz); clear HB; have HB := HBZ; clear HBZ; (try (have HPZ := Lib.hid (HP.out.below hbz); clear HP; have HP := HPZ; clear HPZ)); (try (have HPBZ := Lib.hid (HPB.out.below hbz); clear HPB; have HPB := HPBZ; clear HPBZ)); (try (have HMZ := Lib.hid (HM.out.below hbz); clear HM; have HM := HMZ; clear HMZ)); (try (have HXZ := Lib.hid (HX.out.below hbz); clear HX; have HX := HXZ; clear HXZ)); (try (have HXBZ := Lib.hid (HXB.out.below hbz); clear HXB; have HXB := HXBZ; clear HXBZ)); (try (have HSZ := Lib.hid (HS.out.below hbz); clear HS; have HS := HSZ; clear HSZ)); (try (have HKAZ := Lib.hid (HKA.out.below hbz); clear HKA; have HKA := HKAZ; clear HKAZ)); (try (have HKBZ := Lib.hid (HKB.out.below hbz); clear HKB; have HKB := HKBZ; clear HKBZ)); (try (have HYZ := Lib.hid (HY.out.below hbz); clear HY; have HY := HYZ; clear HYZ)); (try (have HYBZ := Lib.hid (HYB.out.below hbz); clear HYB; have HYB := HYBZ; clear HYBZ)); (try (have HWZ := Lib.hid (HW.out.below hbz); clear HW; have HW := HWZ; clear HWZ)); (try (have HWBZ := Lib.hid (HWB.out.below hbz); clear HWB; have HWB := HWBZ; clear HWBZ)); clear hbz hb17; (try (clear kp)); (try (clear kx)); (try (clear ky)); (try (clear kw)); (try (have kp := HPB.out.cell)); (try (have kx := HXB.out.cell)); (try (have ky := HYB.out.cell)); (try (have kw := HWB.out.cell)))
    | (go_at_call 23; (with_reducible refine (ints_t HS.out HM.out).mono ?_); rintro e w14 ⟨rfl, hb14⟩; have HBZ := Lib.hid (bon HB.out hb14); clear HB; have HB := HBZ; clear HBZ; (try (have HPZ := Lib.hid (HP.out.below hb14); clear HP; have HP := HPZ; clear HPZ)); (try (have HPBZ := Lib.hid (HPB.out.below hb14); clear HPB; have HPB := HPBZ; clear HPBZ)); (try (have HMZ := Lib.hid (HM.out.below hb14); clear HM; have HM := HMZ; clear HMZ)); (try (have HXZ := Lib.hid (HX.out.below hb14); clear HX; have HX := HXZ; clear HXZ)); (try (have HXBZ := Lib.hid (HXB.out.below hb14); clear HXB; have HXB := HXBZ; clear HXBZ)); (try (have HSZ := Lib.hid (HS.out.below hb14); clear HS; have HS := HSZ; clear HSZ)); (try (have HKAZ := Lib.hid (HKA.out.below hb14); clear HKA; have HKA := HKAZ; clear HKAZ)); (try (have HKBZ := Lib.hid (HKB.out.below hb14); clear HKB; have HKB := HKBZ; clear HKBZ)); (try (have HYZ := Lib.hid (HY.out.below hb14); clear HY; have HY := HYZ; clear HYZ)); (try (have HYBZ := Lib.hid (HYB.out.below hb14); clear HYB; have HYB := HYBZ; clear HYBZ)); (try (have HWZ := Lib.hid (HW.out.below hb14); clear HW; have HW := HWZ; clear HWZ)); (try (have HWBZ := Lib.hid (HWB.out.below hb14); clear HWB; have HWB := HWBZ; clear HWBZ)); clear hb14; (try (clear kp)); (try (clear kx)); (try (clear ky)); (try (clear kw)); (try (have kp := HPB.out.cell)); (try (have kx := HXB.out.cell)); (try (have ky := HYB.out.cell)); (try (have kw := HWB.out.cell)))
    | (go_at_call 25; (with_reducible refine (blocks_t (HKA.out.below (bal (Below.refl _ _) _)) (blk1 _ bi1)).mono ?_); rintro e w15 ⟨rfl, hb15⟩; have hbz := bon (bal (Below.refl _ _) _) hb15; have HBZ := Lib.hid (bon HB.out hbz); clear HB; have HB := HBZ; clear HBZ; (try (have HPZ := Lib.hid (HP.out.below hbz); clear HP; have HP := HPZ; clear HPZ)); (try (have HPBZ := Lib.hid (HPB.out.below hbz); clear HPB; have HPB := HPBZ; clear HPBZ)); (try (have HMZ := Lib.hid (HM.out.below hbz); clear HM; have HM := HMZ; clear HMZ)); (try (have HXZ := Lib.hid (HX.out.below hbz); clear HX; have HX := HXZ; clear HXZ)); (try (have HXBZ := Lib.hid (HXB.out.below hbz); clear HXB; have HXB := HXBZ; clear HXBZ)); (try (have HSZ := Lib.hid (HS.out.below hbz); clear HS; have HS := HSZ; clear HSZ)); (try (have HKAZ := Lib.hid (HKA.out.below hbz); clear HKA; have HKA := HKAZ; clear HKAZ)); (try (have HKBZ := Lib.hid (HKB.out.below hbz); clear HKB; have HKB := HKBZ; clear HKBZ)); (try (have HYZ := Lib.hid (HY.out.below hbz); clear HY; have HY := HYZ; clear HYZ)); (try (have HYBZ := Lib.hid (HYB.out.below hbz); clear HYB; have HYB := HYBZ; clear HYBZ)); (try (have HWZ := Lib.hid (HW.out.below hbz); clear HW; have HW := HWZ; clear HWZ)); (try (have HWBZ := Lib.hid (HWB.out.below hbz); clear HWB; have HWB := HWBZ; clear HWBZ)); clear hbz hb15; (try (clear kp)); (try (clear kx)); (try (clear ky)); (try (clear kw)); (try (have kp := HPB.out.cell)); (try (have kx := HXB.out.cell)); (try (have ky := HYB.out.cell)); (try (have kw := HWB.out.cell)))
    | (go_at_call 25; (with_reducible refine (blocks_t (HKB.out.below (bal (Below.refl _ _) _)) (blk1 _ bi2)).mono ?_); rintro e w16 ⟨rfl, hb16⟩; have hbz := bon (bal (Below.refl _ _) _) hb16; have HBZ := Lib.hid (bon HB.out hbz); clear HB; have HB := HBZ; clear HBZ; (try (have HPZ := Lib.hid (HP.out.below hbz); clear HP; have HP := HPZ; clear HPZ)); (try (have HPBZ := Lib.hid (HPB.out.below hbz); clear HPB; have HPB := HPBZ; clear HPBZ)); (try (have HMZ := Lib.hid (HM.out.below hbz); clear HM; have HM := HMZ; clear HMZ)); (try (have HXZ := Lib.hid (HX.out.below hbz); clear HX; have HX := HXZ; clear HXZ)); (try (have HXBZ := Lib.hid (HXB.out.below hbz); clear HXB; have HXB := HXBZ; clear HXBZ)); (try (have HSZ := Lib.hid (HS.out.below hbz); clear HS; have HS := HSZ; clear HSZ)); (try (have HKAZ := Lib.hid (HKA.out.below hbz); clear HKA; have HKA := HKAZ; clear HKAZ)); (try (have HKBZ := Lib.hid (HKB.out.below hbz); clear HKB; have HKB := HKBZ; clear HKBZ)); (try (have HYZ := Lib.hid (HY.out.below hbz); clear HY; have HY := HYZ; clear HYZ)); (try (have HYBZ := Lib.hid (HYB.out.below hbz); clear HYB; have HYB := HYBZ; clear HYBZ)); (try (have HWZ := Lib.hid (HW.out.below hbz); clear HW; have HW := HWZ; clear HWZ)); (try (have HWBZ := Lib.hid (HWB.out.below hbz); clear HWB; have HWB := HWBZ; clear HWBZ)); clear hbz hb16; (try (clear kp)); (try (clear kx)); (try (clear ky)); (try (clear kw)); (try (have kp := HPB.out.cell)); (try (have kx := HXB.out.cell)); (try (have ky := HYB.out.cell)); (try (have kw := HWB.out.cell))))
  go_ret
  exact ⟨rfl, HB.out⟩
structure E41 (w : World) (p : GP) (vn vs vr vm : Value) (W : World) : Prop where
  box : Blk W w.heap.size [.int .i64 p.n, vn, vs, vr, vm] 27
  prog : ProgIs W (.agg #[.int .i64 p.n, vn, vs, vr, vm]) p
  below : Below w.heap.size w W
theorem E41.on {w W W' : World} {p : GP} {vn vs vr vm : Value} (h : E41 w p vn vs vr vm W) (hb : Below W.heap.size W W') : E41 w p vn vs vr vm W' := ⟨h.box.below hb, h.prog.below hb, bon h.below hb⟩
theorem E41.start {w : World} {p : GP} {vn vs vr vm : Value} (h : ProgIs w (.agg #[.int .i64 p.n, vn, vs, vr, vm]) p) : E41 w p vn vs vr vm (w.alloc (.cells #[.int .i64 p.n, vn, vs, vr, vm] 27)) := by
  have hal : Below w.heap.size w (w.alloc (.cells #[.int .i64 p.n, vn, vs, vr, vm] 27)) := bal (Below.refl _ _) _
  exact ⟨Blk.new w _ _, h.below hal, hal⟩
theorem few17_n {p : GP} (h : few17B p = true) : p.n ≤ 12 := by
  unfold few17B at h
  simp only [Bool.and_eq_true, decide_eq_true_eq] at h
  exact h.1.1.1.1.1
theorem in1_call {v : Value} {l : List Int} {a : Int} {b : Bool} {w : World} (hb : decide (a ∈ l) = b) (ha : InI a) (h : Ints w v l) :
    Calls Tryz.prog 29 #[.slice (some ⟨w.heap.size, 0, none⟩) 1 1, v] (w.alloc (.cells #[.int .i64 a] 3)) fun e w' => e = .returned (.bool b) ∧ Below w.heap.size w w' := by
  refine (in19_any _ v [a] l _ ((Blk.new w [.int .i64 a] 3).ints1 ha) (h.below (bal (Below.refl _ _) _))).mono ?_
  rintro e w' ⟨rfl, rfl⟩
  rw [inSub_one, hb]
  exact ⟨rfl, bal (Below.refl _ _) _⟩
structure Eb41 (w : World) (p : GP) (vn vs vr vm vS : Value) (m : List Int) (vL : Value) (L : List BK) (W : World) : Prop where
  st : E41 w p vn vs vr vm W
  set : Ints W vS m
  blk : BlksIs W vL L
theorem Eb41.on {w W W' : World} {p : GP} {vn vs vr vm vS vL : Value} {m : List Int} {L : List BK} (h : Eb41 w p vn vs vr vm vS m vL L W) (hb : Below W.heap.size W W') : Eb41 w p vn vs vr vm vS m vL L W' := ⟨h.st.on hb, h.set.below hb, h.blk.below hb⟩
section
variable {v vset vx : Value} {p : GP} {m : List Int} {x : XP} {w : World}
theorem expl_ok {L : List WY} {R : List Int} (hE : xE p m = 0) (hX : explX p m = ⟨L, R⟩) (h : ProgIs w v p) (hm : Ints w vset m) :
    Calls Tryz.prog 14 #[v, vset] w fun e w' => ∃ a1 c1 a2 c2, e = .returned (.tuple #[.agg #[.slice a1 L.length c1, .slice a2 R.length c2], .int .i64 0]) ∧ MineY w.heap.size (.slice a1 L.length c1) L w' ∧ QRow w.heap.size w' (.slice a2 R.length c2) R ∧ Below w.heap.size w w' := by
  refine (explain_any v vset p m w h hm).mono ?_
  rintro e w' ⟨vx, rfl, ⟨vw, vr, rfl, h1, h2⟩, hb⟩
  rw [if_pos hE, hX] at h1 h2
  rw [hE]
  obtain ⟨a1, c1, rfl⟩ := h1.slen
  obtain ⟨a2, c2, rfl⟩ := h2.slen
  exact ⟨a1, c1, a2, c2, rfl, h1.mono (by omega), h2.mono (by omega), hb⟩
theorem expl_no (hE : xE p m = 410) (h : ProgIs w v p) (hm : Ints w vset m) :
    Calls Tryz.prog 14 #[v, vset] w fun e w' => ∃ a1 c1 a2 c2, e = .returned (.tuple #[.agg #[.slice a1 0 c1, .slice a2 0 c2], .int .i64 410]) ∧ Below w.heap.size w w' := by
  refine (explain_any v vset p m w h hm).mono ?_
  rintro e w' ⟨vx, rfl, ⟨vw, vr, rfl, h1, h2⟩, hb⟩
  rw [if_neg (by rw [hE]; decide)] at h1 h2
  rw [hE]
  obtain ⟨a1, c1, rfl⟩ := h1.slen
  obtain ⟨a2, c2, rfl⟩ := h2.slen
  exact ⟨a1, c1, a2, c2, rfl, hb⟩
theorem support_ok {a : Int} (hE : xE p m = 0) (hc : chkX p m x = true) (ha : InI a) (hin : a ∈ atomsY x.whys) (h : ProgIs w v p) (hm : Ints w vset m) (hx : ExplIs w vx x) (hl : x.whys.length ≤ 500) :
    Calls Tryz.prog 16 #[v, vset, vx, .int .i64 a] w fun e w' => ∃ a1 c1 out, e = .returned (.tuple #[.slice a1 out.length c1, .int .i64 0]) ∧ QRow w.heap.size w' (.slice a1 out.length c1) out ∧ (out.Pairwise (· < ·) ∧ ∀ b, b ∈ out ↔ SupR p x a b) ∧ Below w.heap.size w w' := by
  refine (support_any v vset vx p m x a w h hm hx ha hl).mono ?_
  rintro e w' ⟨vo, out, E, rfl, hq, hb, h1 | h1 | h1 | h1⟩
  · exact absurd hE h1.1
  · rw [hc] at h1; exact absurd h1.2.1 (fun e => by cases e)
  · exact absurd hin h1.2.2.1
  · obtain ⟨-, -, -, rfl, h2, h3⟩ := h1
    obtain ⟨a1, c1, rfl⟩ := hq.slen
    exact ⟨a1, c1, out, rfl, hq.mono (by omega), ⟨h2, h3⟩, hb⟩
end
attribute [local go_sem] memUpon
structure Mine (B : Nat) (v : Value) (L : List RQ) (w : World) : Prop where
  row : w.ownsRow B 60 6 v L.length (L.flatMap cells6)
  each : ∀ q ∈ L, QRow B w q.2.1 q.1.head ∧ QRow B w q.2.2.1 q.1.body ∧ QRow B w q.2.2.2 q.1.w ∧ InI q.1.bound
theorem Mine.nil (B : Nat) (w : World) : Mine B (.slice none 0 0) [] w := ⟨⟨by simp, .inl ⟨rfl, rfl⟩⟩, fun q hq => by simp at hq⟩
section
variable {B n : Nat} {xs : List Value} {v : Value} {w w' : World} {L : List RQ}
theorem QRow.rowKept {u : Value} {l : List Int} (h : QRow B w u l) (hr : w.ownsRow B 60 6 v n xs) (hg : w.grownBy w' v.ownBlock) : QRow B w' u l := by
  refine h.kept fun i hi hi2 hu => hg.block i hi2 (fun e => ?_)
  rcases hr.2 with ⟨rfl, _⟩ | ⟨g, cap, cur, rfl, hb, hgg, _⟩
  · cases e
  · simp only [Value.ownBlock, Option.some.injEq] at e
    subst e
    rcases h.2 with ⟨rfl, _⟩ | ⟨g', off, cap', cur', rfl, _, hgg', _⟩
    · cases hu
    · simp only [Value.ownBlock, Option.some.injEq] at hu
      subst hu
      rw [hgg'] at hgg
      have := Option.some.inj hgg
      injection this with _ h2 _
      revert h2; decide
theorem Mine.below (h : Mine B v L w) (hb : Below w.heap.size w w') : Mine B v L w' :=
  ⟨rowBelow h.row hb, fun q hq => let ⟨h1, h2, h3, h4⟩ := h.each q hq; ⟨h1.below hb, h2.below hb, h3.below hb, h4⟩⟩
theorem Mine.push {g cap : Nat} {q : RQ} (h : Mine B v L w) (hq : QRow B w q.2.1 q.1.head ∧ QRow B w q.2.2.1 q.1.body ∧ QRow B w q.2.2.2 q.1.w ∧ InI q.1.bound)
    (hown : w'.ownsRow B 60 6 (.slice (some ⟨g, 0, none⟩) (L.length + 1) cap) (L.length + 1) (L.flatMap cells6 ++ cells6 q)) (hg : w.grownBy w' v.ownBlock) : Mine B (.slice (some ⟨g, 0, none⟩) (L.length + 1) cap) (L ++ [q]) w' := by
  refine ⟨by simpa using hown, fun q' hq' => ?_⟩
  simp only [List.mem_append, List.mem_singleton] at hq'
  rcases hq' with hq' | rfl
  · obtain ⟨h1, h2, h3, h4⟩ := h.each q' hq'
    exact ⟨h1.rowKept h.row hg, h2.rowKept h.row hg, h3.rowKept h.row hg, h4⟩
  · obtain ⟨h1, h2, h3, h4⟩ := hq
    exact ⟨h1.rowKept h.row hg, h2.rowKept h.row hg, h3.rowKept h.row hg, h4⟩
theorem Mine.setCell (h : Mine B v L w) {b : Nat} (o : Nat) (u : Value) (hb : b < B) : Mine B v L (w.setCell ⟨b, o, none⟩ u) := by
  have hk : ∀ i, B ≤ i → (w.setCell ⟨b, o, none⟩ u).heap[i]? = w.heap[i]? := fun i hi => Below.heap_setCell _ _ _ _ (show i ≠ b by omega)
  refine ⟨⟨h.row.1, ?_⟩, fun q hq => let ⟨h1, h2, h3, h4⟩ := h.each q hq; ⟨h1.kept fun i hi _ _ => hk i hi, h2.kept fun i hi _ _ => hk i hi, h3.kept fun i hi _ _ => hk i hi, h4⟩⟩
  rcases h.row.2 with hn | ⟨g, cap, cur, e, hbg, hgg, rest⟩
  · exact .inl hn
  · exact .inr ⟨g, cap, cur, e, hbg, (hk g hbg).trans hgg, rest⟩
theorem Mine.rules (h : Mine B v L w) (l : List GR) (hl : L.map (·.1) = l) (hfit : L.length * 88 ≤ 140737488351232) (hlen : ∀ q ∈ L, q.1.head.length * 8 ≤ 140737488351232 ∧ q.1.body.length * 8 ≤ 140737488351232 ∧ q.1.w.length * 8 ≤ 140737488351232) :
    RulesAt w v l (fun i => (L.getD i default).2.1) (fun i => (L.getD i default).2.2.1) (fun i => (L.getD i default).2.2.2) := by
  have hlen' : l.length = L.length := by rw [← hl]; simp
  have hq : ∀ i, i < l.length → L.getD i default ∈ L ∧ (L.getD i default).1 = ixR l i := fun i hi => by
    have hi' : i < L.length := by omega
    have e : L.getD i default = L[i] := by simp [List.getD_eq_getElem?_getD, List.getElem?_eq_getElem hi']
    rw [e]
    refine ⟨List.getElem_mem hi', ?_⟩
    subst hl
    simp [ixR, List.getD_eq_getElem?_getD, List.getElem?_eq_getElem hi']
  refine ⟨?_, fun i hi => ?_⟩
  · rw [hlen']
    rcases h.row.2 with ⟨rfl, h0⟩ | ⟨g, cap, cur, rfl, hb, hg, hn, hm, hs, hx⟩
    · exact ⟨none, 0, by rw [h0], by omega, by unfold maxLen; omega, by omega, fun hp => by omega⟩
    · refine ⟨_, cap, rfl, hn, hm, hfit, fun _ => ⟨g, 0, rfl, (Array.getElem?_eq_some_iff.1 hg).1, fun i hi j hj => ?_⟩⟩
      have h6 := flat6 L i j hi hj
      rw [← hx, List.getElem?_take_of_lt (by omega)] at h6
      rw [cell_of_row w g (0 + i * 6 + j) cur _ (0, 0) hg, Nat.zero_add]
      have e2 := (hq i (by omega)).2
      dsimp only
      rw [← e2]
      have : cur[i * 6 + j]? = cur.toList[i * 6 + j]? := by simp
      rw [this, h6]
      rcases (show j = 0 ∨ j = 1 ∨ j = 2 ∨ j = 3 ∨ j = 4 ∨ j = 5 by omega) with rfl | rfl | rfl | rfl | rfl | rfl <;> rfl
  · obtain ⟨hm, e⟩ := hq i hi
    obtain ⟨h1, h2, h3, h4⟩ := h.each _ hm
    obtain ⟨g1, g2, g3⟩ := hlen _ hm
    rw [← e]
    exact ⟨h1.ints g1, h2.ints g2, h3.ints g3, h4⟩
end
structure MW (B H : Nat) (ar : Option Addr) (n : Nat) (L : List RQ) (w : World) : Prop where
  row : 0 < n → ∃ b off cur, ar = some ⟨b, off, none⟩ ∧ B ≤ b ∧ b < H ∧ Blk w b cur 60 ∧ ∀ i, i < n → cur[off + i * 6 + 4]? = some (L.getD i default).2.2.1 ∧ ∃ bd : Int, cur[off + i * 6 + 3]? = some (.int .i64 bd)
  body : ∀ i, i < n → ∃ a c, (L.getD i default).2.2.1 = .slice a (L.getD i default).1.body.length c ∧ (0 < (L.getD i default).1.body.length → ∃ g off cur, a = some ⟨g, off, none⟩ ∧ B ≤ g ∧ g < H ∧ Blk w g cur 3 ∧ off + (L.getD i default).1.body.length ≤ cur.length)
section
variable {B H n : Nat} {ar : Option Addr} {L : List RQ} {w w' : World}
theorem MW.below (h : MW B H ar n L w) (hb : Below w.heap.size w w') : MW B H ar n L w' :=
  ⟨fun h0 => let ⟨b, off, cur, e, h1, h2, h3, h4⟩ := h.row h0; ⟨b, off, cur, e, h1, h2, h3.below hb, h4⟩,
   fun i hi => let ⟨a, c, e, k⟩ := h.body i hi; ⟨a, c, e, fun h0 => let ⟨g, off, cur, e, h1, h2, h3, h4⟩ := k h0; ⟨g, off, cur, e, h1, h2, h3.below hb, h4⟩⟩⟩
theorem MW.at {b off k nb c : Nat} {a : Option Addr} (h : MW B H (some ⟨b, off, none⟩) n L w) (hk : k < n) (e : (L.getD k default).2.2.1 = .slice a nb c) :
    (∃ cur, Blk w b cur 60 ∧ B ≤ b ∧ b < H) ∧ w.cell? ⟨b, off + k * 6 + 4, none⟩ = some (.slice a nb c) ∧ (∃ bd : Int, w.cell? ⟨b, off + k * 6 + 3, none⟩ = some (.int .i64 bd)) ∧ w.frozen? ⟨b, off + k * 6 + 3, none⟩ = false ∧
      (0 < nb → ∃ g off2 cur2, a = some ⟨g, off2, none⟩ ∧ B ≤ g ∧ g < H ∧ Blk w g cur2 3 ∧ off2 + nb ≤ cur2.length) := by
  obtain ⟨b', off', cur, e1, h1, h2, h3, h4⟩ := h.row (by omega)
  simp only [Option.some.injEq, Addr.mk.injEq, and_true] at e1
  obtain ⟨rfl, rfl⟩ := e1
  obtain ⟨k1, bd, k2⟩ := h4 k hk
  rw [e] at k1
  obtain ⟨a', c', e', k5⟩ := h.body k hk
  rw [e] at e'
  simp only [Value.slice.injEq] at e'
  obtain ⟨rfl, rfl, rfl⟩ := e'
  exact ⟨⟨cur, h3, h1, h2⟩, (h3.cell _).trans k1, ⟨bd, (h3.cell _).trans k2⟩, h3.free _, k5⟩
end
end Go.Proofs.YtfajkmmmmmfhiaaGreatDoor
namespace Go.Proofs.YtfajkmmmmmfhiaaGreatDoor
open Go.RowKit
def IntsX (w0 W : World) (v : Value) (l : List Int) : Prop := Ints w0 v l ∨ (QRow w0.heap.size W v l ∧ l.length ≤ 1000000000)
theorem IntsX.old {w0 W : World} {v : Value} {l : List Int} (h : Ints w0 v l) : IntsX w0 W v l := .inl h
theorem IntsX.own {w0 W : World} {v : Value} {l : List Int} (h : QRow w0.heap.size W v l) (hl : l.length ≤ 1000000000) : IntsX w0 W v l := .inr ⟨h, hl⟩
theorem IntsX.below {w0 W W' : World} {v : Value} {l : List Int} (h : IntsX w0 W v l) (hb : Below W.heap.size W W') : IntsX w0 W' v l := h.imp id fun h => ⟨h.1.below hb, h.2⟩
theorem IntsX.ints {w0 W : World} {v : Value} {l : List Int} (h : IntsX w0 W v l) (hb : Below w0.heap.size w0 W) : Ints W v l := h.elim (·.below hb) fun h => h.1.ints (by have := h.2; omega)
theorem IntsX.sl {w0 W : World} {v : Value} {l : List Int} (h : IntsX w0 W v l) : ∃ a c, v = .slice a l.length c := by
  rcases h with h | h
  · obtain ⟨a, c, rfl, -⟩ := h.form; exact ⟨a, c, rfl⟩
  · exact h.1.slen
def RuleX (w0 W : World) (q : RQ) : Prop := IntsX w0 W q.2.1 q.1.head ∧ IntsX w0 W q.2.2.1 q.1.body ∧ IntsX w0 W q.2.2.2 q.1.w ∧ InI q.1.bound
theorem RuleX.below {w0 W W' : World} {q : RQ} (h : RuleX w0 W q) (hb : Below W.heap.size W W') : RuleX w0 W' q := ⟨h.1.below hb, h.2.1.below hb, h.2.2.1.below hb, h.2.2.2⟩
structure RowR (w0 : World) (v : Value) (L : List RQ) (W : World) : Prop where
  row : W.ownsRow w0.heap.size 60 6 v L.length (L.flatMap cells6)
  each : ∀ q ∈ L, RuleX w0 W q
theorem RowR.nil (w0 W : World) : RowR w0 (.slice none 0 0) [] W := ⟨⟨by simp, .inl ⟨rfl, rfl⟩⟩, fun q hq => by simp at hq⟩
section
variable {w0 W W' : World} {v : Value} {L : List RQ}
theorem RowR.below (h : RowR w0 v L W) (hb : Below W.heap.size W W') : RowR w0 v L W' := ⟨rowBelow h.row hb, fun q hq => (h.each q hq).below hb⟩
theorem RowR.slen (h : RowR w0 v L W) : ∃ a c, v = .slice a L.length c := by
  rcases h.row.2 with ⟨rfl, h0⟩ | ⟨g, cap, cur, rfl, _⟩
  · rw [h0]; exact ⟨_, _, rfl⟩
  · exact ⟨_, _, rfl⟩
theorem IntsX.rowKept {u : Value} {l : List Int} (h : IntsX w0 W u l) (hr : RowR w0 v L W) (hg : W.grownBy W' v.ownBlock) : IntsX w0 W' u l := h.imp id fun h => ⟨h.1.rowKept hr.row hg, h.2⟩
theorem RuleX.rowKept {q : RQ} (h : RuleX w0 W q) (hr : RowR w0 v L W) (hg : W.grownBy W' v.ownBlock) : RuleX w0 W' q := ⟨h.1.rowKept hr hg, h.2.1.rowKept hr hg, h.2.2.1.rowKept hr hg, h.2.2.2⟩
theorem RowR.far (h : RowR w0 v L W) {b : Nat} {c : List Value} {T : TypeId} (hb : Blk W b c T) (hT : T ≠ 60) : v.ownBlock ≠ some b := fun e => by
  rcases h.row.2 with ⟨rfl, _⟩ | ⟨g, cap, cur, rfl, hg, hgg, _⟩
  · cases e
  · have : g = b := by simpa [Value.ownBlock] using e
    subst this
    unfold Blk at hb
    rw [hb] at hgg
    injection hgg with hgg
    injection hgg with _ h2 _
    exact hT h2
theorem RowR.lo (h : RowR w0 v L W) {g : Nat} (e : v.ownBlock = some g) : w0.heap.size ≤ g := by
  rcases h.row.2 with ⟨rfl, _⟩ | ⟨g', cap, cur, rfl, hb, _⟩
  · cases e
  · have : g' = g := by simpa [Value.ownBlock] using e
    omega
theorem RowR.same (h : RowR w0 v L W) (hr : ∀ i, w0.heap.size ≤ i → i < W.heap.size → v.ownBlock = some i → W'.heap[i]? = W.heap[i]?) (hq : ∀ q ∈ L, RuleX w0 W' q) : RowR w0 v L W' := by
  refine ⟨⟨h.row.1, ?_⟩, hq⟩
  rcases h.row.2 with hn | ⟨g, cap, cur, rfl, hb, hg, rest⟩
  · exact .inl hn
  · exact .inr ⟨g, cap, cur, rfl, hb, (hr g hb (Array.getElem?_eq_some_iff.1 hg).1 rfl).trans hg, rest⟩
theorem RowR.rules (h : RowR w0 v L W) (hb : Below w0.heap.size w0 W) (hfit : L.length ≤ 1000000) : RulesIs W v (L.map (·.1)) := by
  have hlen : (L.map (·.1)).length = L.length := by simp
  have hq : ∀ i, i < L.length → L.getD i default ∈ L ∧ (L.getD i default).1 = ixR (L.map (·.1)) i := fun i hi => by
    have e : L.getD i default = L[i] := by simp [List.getD_eq_getElem?_getD, List.getElem?_eq_getElem hi]
    rw [e]
    exact ⟨List.getElem_mem hi, by simp [ixR, List.getD_eq_getElem?_getD, List.getElem?_eq_getElem hi]⟩
  refine ⟨fun i => (L.getD i default).2.1, fun i => (L.getD i default).2.2.1, fun i => (L.getD i default).2.2.2, ?_, fun i hi => ?_⟩
  · rw [hlen]
    rcases h.row.2 with ⟨rfl, h0⟩ | ⟨g, cap, cur, rfl, hb, hg, hn, hm, hs, hx⟩
    · exact ⟨none, 0, by rw [h0], by omega, by unfold maxLen; omega, by omega, fun hp => by omega⟩
    · refine ⟨_, cap, rfl, hn, hm, by omega, fun _ => ⟨g, 0, rfl, (Array.getElem?_eq_some_iff.1 hg).1, fun i hi j hj => ?_⟩⟩
      have h6 := flat6 L i j hi hj
      rw [← hx, List.getElem?_take_of_lt (by omega)] at h6
      rw [cell_of_row W g (0 + i * 6 + j) cur _ (0, 0) hg, Nat.zero_add]
      have e2 := (hq i (by omega)).2
      dsimp only
      rw [← e2]
      have : cur[i * 6 + j]? = cur.toList[i * 6 + j]? := by simp
      rw [this, h6]
      rcases (show j = 0 ∨ j = 1 ∨ j = 2 ∨ j = 3 ∨ j = 4 ∨ j = 5 by omega) with rfl | rfl | rfl | rfl | rfl | rfl <;> rfl
  · rw [hlen] at hi
    obtain ⟨hm, e⟩ := hq i hi
    obtain ⟨h1, h2, h3, h4⟩ := h.each _ hm
    rw [← e]
    exact ⟨h1.ints hb, h2.ints hb, h3.ints hb, h4⟩
end
theorem wpList_appendRR {ops : Array Oper} {rest : List Oper} {o : Oper} {a : Act} {W : World} {Q : Exit → Act → World → Prop} (hgd : o.guard = none) (s x : Operand)
    (ho : o.op = .call { callee := .builtin .append, args := #[s, x], argTypes := #[24, 24] }) (w0 : World) (v : Value) (L : List RQ) (q : RQ) (hs : a.eval s = v) (h : RowR w0 v L W) (g0 c : Nat) (hx : a.eval x = .slice (some ⟨g0, 0, none⟩) 1 c)
    (hb : Blk W g0 (cells6 q) 60) (hq : RuleX w0 W q) (hlen : L.length + 1 ≤ 1000000) (hbase : Below w0.heap.size w0 W)
    (hK : ∀ g cap w', RowR w0 (.slice (some ⟨g, 0, none⟩) (L.length + 1) cap) (L ++ [q]) w' → W.grownBy w' v.ownBlock → Below w0.heap.size w0 w' → wpList Tryz.prog ops Q rest (a.put o.dst (.slice (some ⟨g, 0, none⟩) (L.length + 1) cap)) w') : wpList Tryz.prog ops Q (o :: rest) a W := by
  obtain ⟨i0, hi, hz0, hz1, hz2⟩ := info_parts infoR
  refine wpList_append_own W hgd s x _ ho w0.heap.size 60 i0 _ 6 96 Tryz.underlying24 hi hz0 hz1 hz2 rfl (by decide) _ L.length (L.flatMap cells6) hs h.row ⟨g0, 0, none⟩ 1 c (cells6 q) hx rfl (fun j u hu => ?_) (fun u hu => ?_) (by unfold maxLen; omega) (by omega) hbase.size (fun v' w' h1 h2 _ => ?_)
  · rw [Addr.add_lit, Nat.zero_add, hb.cell]; exact hu
  · obtain ⟨a1, c1, e1⟩ := hq.1.sl
    obtain ⟨a2, c2, e2⟩ := hq.2.1.sl
    obtain ⟨a3, c3, e3⟩ := hq.2.2.1.sl
    simp only [cells6, e1, e2, e3, List.mem_cons, List.not_mem_nil, or_false] at hu
    rcases hu with rfl | rfl | rfl | rfl | rfl | rfl <;> rfl
  · have hne : ∃ g2 cap2, v' = .slice (some ⟨g2, 0, none⟩) (L.length + 1) cap2 := by
      rcases h1.2 with ⟨-, h0⟩ | ⟨g2, cap2, cur2, rfl, _⟩
      · omega
      · exact ⟨g2, cap2, rfl⟩
    obtain ⟨g2, cap2, rfl⟩ := hne
    refine hK g2 cap2 w' ⟨by simpa using h1, fun q' hq' => ?_⟩ h2 ?_
    · simp only [List.mem_append, List.mem_singleton] at hq'
      rcases hq' with hq' | rfl
      · exact (h.each q' hq').rowKept h h2
      · exact hq.rowKept h h2
    · refine hbase.grown h2 hbase.size fun g e => h.lo e
end Go.Proofs.YtfajkmmmmmfhiaaGreatDoor
