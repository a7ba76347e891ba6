/- My texts Tx7, Bw41, CpA, CpB, PermK, Aw2, merged. -/
import Derived.Test.YtgakoainjgjimaaGreatDoorM16
import Derived.Test.YtgakoainjgjimaaGreatDoorM15
import Derived.Test.YtgakoainjgjimaaGreatDoorM14
import Derived.Test.YtgakoainjgjimaaGreatDoorM09
import Derived.Test.YtgakoainjgjimaaGreatDoorM07
import Derived.Test.YtgakoainjgjimaaGreatDoorM05
import Derived.Test.YtgakoainjgjimaaGreatDoorM04
import Derived.Test.YtgakoainjgjimaaGreatDoorM03
import Derived.Test.YtgakoainjgjimaaGreatDoorM00
import Derived.Test.YtgakoainjgjimaaGreatDoorProg
import Derived.WalkKit
import Derived.Lib.Hide
import Derived.Deep.QuietTactic
import Derived.BigQuiet
import Derived.WalkSpells
import Derived.Lib.SliceRun
import Derived.MapKept
import Derived.Maps.OwnSet
import Derived.Maps.OwnOps
import Derived.Test.YtgakoainjgjimaaGreatDoorM02
import Derived.Test.YtgakoainjgjimaaGreatDoorM01
import Derived.Deep.AppendLies
import Derived.Lib.Bytealg
import Derived.Deep.DeepCutAuto
import Derived.Laws.EntriesVeiled
import Derived.Deep.RegionWith
import Derived.Deep.OwnRows
import Derived.Test.YtgakoainjgjimaaGreatDoorM06
import Derived.RangeFuncNested
import Derived.RangeFuncBound
import Derived.RangeFuncCalls
import Derived.RangeFuncLeaves
import Derived.OwnWalkIn
import Derived.TacticsInMore
import Derived.LoopNIn
import Derived.LoopIn
import Derived.Stop.RegionWithIn
import Derived.Shelf.Abstract
import Derived.Deep.LoopGhost
import Derived.Deep.DrawnRows
import Derived.Shelf.Sort.Plain
import Derived.Shelf.Slices.CompactI
import Derived.Shelf.Slices.In.SortNone
import Derived.Shelf.Strconv.Itoa3
import Derived.Shelf.Strings.BuilderK
import Derived.Shelf.Slices.SearchI
import Derived.Shelf.Slices.Empties
import Derived.Lib.ItoaNum
import Derived.Test.YtgakoainjgjimaaGreatDoorM11
import Derived.Test.YtgakoainjgjimaaGreatDoorM10
import Derived.Test.YtgakoainjgjimaaGreatDoorM08
import Derived.Deep.AppendSrc
import Derived.Lib.SlicesCompact
import Derived.Sort.OwnSortedInts
import Derived.Test.YtgakoainjgjimaaGreatDoorM13
import Derived.Test.YtgakoainjgjimaaGreatDoorM12
import Derived.Sort.QuietThIn
import Derived.Maps.RangeWalk
import Derived.RangeFuncBox
import Derived.Maps.OwnIn
import Derived.Lib.RowBridge
import Derived.Deep.DeepMust

namespace Go.Proofs.YtgakoainjgjimaaGreatDoor
open Go.RowKit
set_option maxHeartbeats 8000000 in
set_option maxRecDepth 100000 in
theorem awake41_any (w : World) :
    Calls Tryz.prog 7 #[] w fun e w' => e = .returned (.bool true) ∧ Below w.heap.size w w' := by
  go_enter Tryz.func7, Tryz.ntmps7
  go_upto_region 2 with (go_at_call 32; (with_reducible refine (example_any _).mono ?_); rintro e w1 ⟨v, rfl, ⟨an, nn, cn, ar, nr, cr, rfl⟩, hp, hb1⟩; have HP := Lib.hid hp; have HB := Lib.hid hb1; clear hp hb1)
  have hm := (Blk.new w1 [.int .i64 1, .int .i64 3, .int .i64 5] 3).alloc (.cells #[.int .i64 6, .slice an nn cn, .slice none 0 0, .slice ar nr cr, .slice none 0 0] 27)
  have hpb := Blk.newAt (w1.alloc (.cells #[.int .i64 1, .int .i64 3, .int .i64 5] 3)) [.int .i64 6, .slice an nn cn, .slice none 0 0, .slice ar nr cr, .slice none 0 0] 27 (show w1.heap.size + 1 = _ by simp)
  have hal := bal (bal (Below.refl w1.heap.size w1) (.cells #[.int .i64 1, .int .i64 3, .int .i64 5] 3)) (.cells #[.int .i64 6, .slice an nn cn, .slice none 0 0, .slice ar nr cr, .slice none 0 0] 27)
  have HBZ := Lib.hid (bon HB.out hal); clear HB; have HB := HBZ; clear HBZ; (try (have HPZ := Lib.hid (HP.out.below hal); clear HP; have HP := HPZ; clear HPZ)); (try (have HPBZ := Lib.hid (HPB.out.below hal); clear HPB; have HPB := HPBZ; clear HPBZ)); (try (have HMZ := Lib.hid (HM.out.below hal); clear HM; have HM := HMZ; clear HMZ)); (try (have HXZ := Lib.hid (HX.out.below hal); clear HX; have HX := HXZ; clear HXZ)); (try (have HXBZ := Lib.hid (HXB.out.below hal); clear HXB; have HXB := HXBZ; clear HXBZ)); (try (have HSZ := Lib.hid (HS.out.below hal); clear HS; have HS := HSZ; clear HSZ)); (try (have HKAZ := Lib.hid (HKA.out.below hal); clear HKA; have HKA := HKAZ; clear HKAZ)); (try (have HKBZ := Lib.hid (HKB.out.below hal); clear HKB; have HKB := HKBZ; clear HKBZ)); (try (have HYZ := Lib.hid (HY.out.below hal); clear HY; have HY := HYZ; clear HYZ)); (try (have HYBZ := Lib.hid (HYB.out.below hal); clear HYB; have HYB := HYBZ; clear HYBZ)); (try (have HWZ := Lib.hid (HW.out.below hal); clear HW; have HW := HWZ; clear HWZ)); (try (have HWBZ := Lib.hid (HWB.out.below hal); clear HWB; have HWB := HWBZ; clear HWBZ))
  have HM : Hid (Ints ((w1.alloc (.cells #[.int .i64 1, .int .i64 3, .int .i64 5] 3)).alloc (.cells #[.int .i64 6, .slice an nn cn, .slice none 0 0, .slice ar nr cr, .slice none 0 0] 27)) (.slice (some ⟨w1.heap.size, 0, none⟩) 3 3) [1, 3, 5]) := Lib.hid (Blk.intsL (l := [1, 3, 5]) hm (by decide))
  have HPB := Lib.hid hpb
  clear hm hpb hal
  generalize (w1.alloc (.cells #[.int .i64 1, .int .i64 3, .int .i64 5] 3)).alloc (.cells #[.int .i64 6, .slice an nn cn, .slice none 0 0, .slice ar nr cr, .slice none 0 0] 27) = W2 at *
  generalize w1.heap.size + 1 = pb at *
  generalize w1.heap.size = mb at *
  (try (clear kp)); (try (clear kx)); (try (clear ky)); (try (clear kw)); (try (have kp := HPB.out.cell)); (try (have kx := HXB.out.cell)); (try (have ky := HYB.out.cell)); (try (have kw := HWB.out.cell))
  go_upto_region 3 with (go_at_call 9; (with_reducible refine (exX_call HP.out HM.out).mono ?_); rintro e w3 ⟨aw, cw, ae, ce, rfl, hx, hb3⟩; have HBZ := Lib.hid (bon HB.out hb3); clear HB; have HB := HBZ; clear HBZ; (try (have HPZ := Lib.hid (HP.out.below hb3); clear HP; have HP := HPZ; clear HPZ)); (try (have HPBZ := Lib.hid (HPB.out.below hb3); clear HPB; have HPB := HPBZ; clear HPBZ)); (try (have HMZ := Lib.hid (HM.out.below hb3); clear HM; have HM := HMZ; clear HMZ)); (try (have HXZ := Lib.hid (HX.out.below hb3); clear HX; have HX := HXZ; clear HXZ)); (try (have HXBZ := Lib.hid (HXB.out.below hb3); clear HXB; have HXB := HXBZ; clear HXBZ)); (try (have HSZ := Lib.hid (HS.out.below hb3); clear HS; have HS := HSZ; clear HSZ)); (try (have HKAZ := Lib.hid (HKA.out.below hb3); clear HKA; have HKA := HKAZ; clear HKAZ)); (try (have HKBZ := Lib.hid (HKB.out.below hb3); clear HKB; have HKB := HKBZ; clear HKBZ)); (try (have HYZ := Lib.hid (HY.out.below hb3); clear HY; have HY := HYZ; clear HYZ)); (try (have HYBZ := Lib.hid (HYB.out.below hb3); clear HYB; have HYB := HYBZ; clear HYBZ)); (try (have HWZ := Lib.hid (HW.out.below hb3); clear HW; have HW := HWZ; clear HWZ)); (try (have HWBZ := Lib.hid (HWB.out.below hb3); clear HWB; have HWB := HWBZ; clear HWBZ)); have HX := Lib.hid hx; clear hx hb3)
  have hal := bal (Below.refl w3.heap.size w3) (.cells #[.slice aw 3 cw, .slice ae 0 ce] 30)
  have HBZ := Lib.hid (bon HB.out hal); clear HB; have HB := HBZ; clear HBZ; (try (have HPZ := Lib.hid (HP.out.below hal); clear HP; have HP := HPZ; clear HPZ)); (try (have HPBZ := Lib.hid (HPB.out.below hal); clear HPB; have HPB := HPBZ; clear HPBZ)); (try (have HMZ := Lib.hid (HM.out.below hal); clear HM; have HM := HMZ; clear HMZ)); (try (have HXZ := Lib.hid (HX.out.below hal); clear HX; have HX := HXZ; clear HXZ)); (try (have HXBZ := Lib.hid (HXB.out.below hal); clear HXB; have HXB := HXBZ; clear HXBZ)); (try (have HSZ := Lib.hid (HS.out.below hal); clear HS; have HS := HSZ; clear HSZ)); (try (have HKAZ := Lib.hid (HKA.out.below hal); clear HKA; have HKA := HKAZ; clear HKAZ)); (try (have HKBZ := Lib.hid (HKB.out.below hal); clear HKB; have HKB := HKBZ; clear HKBZ)); (try (have HYZ := Lib.hid (HY.out.below hal); clear HY; have HY := HYZ; clear HYZ)); (try (have HYBZ := Lib.hid (HYB.out.below hal); clear HYB; have HYB := HYBZ; clear HYBZ)); (try (have HWZ := Lib.hid (HW.out.below hal); clear HW; have HW := HWZ; clear HWZ)); (try (have HWBZ := Lib.hid (HWB.out.below hal); clear HWB; have HWB := HWBZ; clear HWBZ))
  have HXB := Lib.hid (Blk.new w3 [.slice aw 3 cw, .slice ae 0 ce] 30)
  clear hal
  generalize w3.alloc (.cells #[.slice aw 3 cw, .slice ae 0 ce] 30) = W3 at *
  generalize w3.heap.size = xb at *
  (try (clear kp)); (try (clear kx)); (try (clear ky)); (try (clear kw)); (try (have kp := HPB.out.cell)); (try (have kx := HXB.out.cell)); (try (have ky := HYB.out.cell)); (try (have kw := HWB.out.cell))
  go_upto_region 4 with (go_at_call 10; (with_reducible refine (exC_call HP.out HM.out HX.out).mono ?_); rintro e w4 ⟨rfl, hb4⟩; have HBZ := Lib.hid (bon HB.out hb4); clear HB; have HB := HBZ; clear HBZ; (try (have HPZ := Lib.hid (HP.out.below hb4); clear HP; have HP := HPZ; clear HPZ)); (try (have HPBZ := Lib.hid (HPB.out.below hb4); clear HPB; have HPB := HPBZ; clear HPBZ)); (try (have HMZ := Lib.hid (HM.out.below hb4); clear HM; have HM := HMZ; clear HMZ)); (try (have HXZ := Lib.hid (HX.out.below hb4); clear HX; have HX := HXZ; clear HXZ)); (try (have HXBZ := Lib.hid (HXB.out.below hb4); clear HXB; have HXB := HXBZ; clear HXBZ)); (try (have HSZ := Lib.hid (HS.out.below hb4); clear HS; have HS := HSZ; clear HSZ)); (try (have HKAZ := Lib.hid (HKA.out.below hb4); clear HKA; have HKA := HKAZ; clear HKAZ)); (try (have HKBZ := Lib.hid (HKB.out.below hb4); clear HKB; have HKB := HKBZ; clear HKBZ)); (try (have HYZ := Lib.hid (HY.out.below hb4); clear HY; have HY := HYZ; clear HYZ)); (try (have HYBZ := Lib.hid (HYB.out.below hb4); clear HYB; have HYB := HYBZ; clear HYBZ)); (try (have HWZ := Lib.hid (HW.out.below hb4); clear HW; have HW := HWZ; clear HWZ)); (try (have HWBZ := Lib.hid (HWB.out.below hb4); clear HWB; have HWB := HWBZ; clear HWBZ)); clear hb4; (try (clear kp)); (try (clear kx)); (try (clear ky)); (try (clear kw)); (try (have kp := HPB.out.cell)); (try (have kx := HXB.out.cell)); (try (have ky := HYB.out.cell)); (try (have kw := HWB.out.cell)))
  go_upto_region 5 with (go_at_call 11; (with_reducible refine (exS_call HP.out HM.out HX.out).mono ?_); rintro e w5 ⟨as5, cs5, rfl, hs, hb5⟩; have HBZ := Lib.hid (bon HB.out hb5); clear HB; have HB := HBZ; clear HBZ; (try (have HPZ := Lib.hid (HP.out.below hb5); clear HP; have HP := HPZ; clear HPZ)); (try (have HPBZ := Lib.hid (HPB.out.below hb5); clear HPB; have HPB := HPBZ; clear HPBZ)); (try (have HMZ := Lib.hid (HM.out.below hb5); clear HM; have HM := HMZ; clear HMZ)); (try (have HXZ := Lib.hid (HX.out.below hb5); clear HX; have HX := HXZ; clear HXZ)); (try (have HXBZ := Lib.hid (HXB.out.below hb5); clear HXB; have HXB := HXBZ; clear HXBZ)); (try (have HSZ := Lib.hid (HS.out.below hb5); clear HS; have HS := HSZ; clear HSZ)); (try (have HKAZ := Lib.hid (HKA.out.below hb5); clear HKA; have HKA := HKAZ; clear HKAZ)); (try (have HKBZ := Lib.hid (HKB.out.below hb5); clear HKB; have HKB := HKBZ; clear HKBZ)); (try (have HYZ := Lib.hid (HY.out.below hb5); clear HY; have HY := HYZ; clear HYZ)); (try (have HYBZ := Lib.hid (HYB.out.below hb5); clear HYB; have HYB := HYBZ; clear HYBZ)); (try (have HWZ := Lib.hid (HW.out.below hb5); clear HW; have HW := HWZ; clear HWZ)); (try (have HWBZ := Lib.hid (HWB.out.below hb5); clear HWB; have HWB := HWBZ; clear HWBZ)); have HS := Lib.hid hs; clear hs hb5; (try (clear kp)); (try (clear kx)); (try (clear ky)); (try (clear kw)); (try (have kp := HPB.out.cell)); (try (have kx := HXB.out.cell)); (try (have ky := HYB.out.cell)); (try (have kw := HWB.out.cell)))
  go_upto_region 6 with (go_at_call 12; (with_reducible refine (exB4 HP.out HM.out).mono ?_); rintro e w6 ⟨ab6, cb6, rfl, hs, hb6⟩; have HBZ := Lib.hid (bon HB.out hb6); clear HB; have HB := HBZ; clear HBZ; (try (have HPZ := Lib.hid (HP.out.below hb6); clear HP; have HP := HPZ; clear HPZ)); (try (have HPBZ := Lib.hid (HPB.out.below hb6); clear HPB; have HPB := HPBZ; clear HPBZ)); (try (have HMZ := Lib.hid (HM.out.below hb6); clear HM; have HM := HMZ; clear HMZ)); (try (have HXZ := Lib.hid (HX.out.below hb6); clear HX; have HX := HXZ; clear HXZ)); (try (have HXBZ := Lib.hid (HXB.out.below hb6); clear HXB; have HXB := HXBZ; clear HXBZ)); (try (have HSZ := Lib.hid (HS.out.below hb6); clear HS; have HS := HSZ; clear HSZ)); (try (have HKAZ := Lib.hid (HKA.out.below hb6); clear HKA; have HKA := HKAZ; clear HKAZ)); (try (have HKBZ := Lib.hid (HKB.out.below hb6); clear HKB; have HKB := HKBZ; clear HKBZ)); (try (have HYZ := Lib.hid (HY.out.below hb6); clear HY; have HY := HYZ; clear HYZ)); (try (have HYBZ := Lib.hid (HYB.out.below hb6); clear HYB; have HYB := HYBZ; clear HYBZ)); (try (have HWZ := Lib.hid (HW.out.below hb6); clear HW; have HW := HWZ; clear HWZ)); (try (have HWBZ := Lib.hid (HWB.out.below hb6); clear HWB; have HWB := HWBZ; clear HWBZ)); have HKA := Lib.hid hs; clear hs hb6; (try (clear kp)); (try (clear kx)); (try (clear ky)); (try (clear kw)); (try (have kp := HPB.out.cell)); (try (have kx := HXB.out.cell)); (try (have ky := HYB.out.cell)); (try (have kw := HWB.out.cell)))
  go_upto_region 7 with (go_at_call 12; (with_reducible refine (exB2 HP.out HM.out).mono ?_); rintro e w7 ⟨ab7, cb7, rfl, hs, hb7⟩; have HBZ := Lib.hid (bon HB.out hb7); clear HB; have HB := HBZ; clear HBZ; (try (have HPZ := Lib.hid (HP.out.below hb7); clear HP; have HP := HPZ; clear HPZ)); (try (have HPBZ := Lib.hid (HPB.out.below hb7); clear HPB; have HPB := HPBZ; clear HPBZ)); (try (have HMZ := Lib.hid (HM.out.below hb7); clear HM; have HM := HMZ; clear HMZ)); (try (have HXZ := Lib.hid (HX.out.below hb7); clear HX; have HX := HXZ; clear HXZ)); (try (have HXBZ := Lib.hid (HXB.out.below hb7); clear HXB; have HXB := HXBZ; clear HXBZ)); (try (have HSZ := Lib.hid (HS.out.below hb7); clear HS; have HS := HSZ; clear HSZ)); (try (have HKAZ := Lib.hid (HKA.out.below hb7); clear HKA; have HKA := HKAZ; clear HKAZ)); (try (have HKBZ := Lib.hid (HKB.out.below hb7); clear HKB; have HKB := HKBZ; clear HKBZ)); (try (have HYZ := Lib.hid (HY.out.below hb7); clear HY; have HY := HYZ; clear HYZ)); (try (have HYBZ := Lib.hid (HYB.out.below hb7); clear HYB; have HYB := HYBZ; clear HYBZ)); (try (have HWZ := Lib.hid (HW.out.below hb7); clear HW; have HW := HWZ; clear HWZ)); (try (have HWBZ := Lib.hid (HWB.out.below hb7); clear HWB; have HWB := HWBZ; clear HWBZ)); have HKB := Lib.hid hs; clear hs hb7; (try (clear kp)); (try (clear kx)); (try (clear ky)); (try (clear kw)); (try (have kp := HPB.out.cell)); (try (have kx := HXB.out.cell)); (try (have ky := HYB.out.cell)); (try (have kw := HWB.out.cell)))
  go_upto_region 8 with (go_at_call 12; (with_reducible refine (exB6 HP.out HM.out).mono ?_); rintro e w8 ⟨ab8, cb8, rfl, hs, hb8⟩; have HBZ := Lib.hid (bon HB.out hb8); clear HB; have HB := HBZ; clear HBZ; (try (have HPZ := Lib.hid (HP.out.below hb8); clear HP; have HP := HPZ; clear HPZ)); (try (have HPBZ := Lib.hid (HPB.out.below hb8); clear HPB; have HPB := HPBZ; clear HPBZ)); (try (have HMZ := Lib.hid (HM.out.below hb8); clear HM; have HM := HMZ; clear HMZ)); (try (have HXZ := Lib.hid (HX.out.below hb8); clear HX; have HX := HXZ; clear HXZ)); (try (have HXBZ := Lib.hid (HXB.out.below hb8); clear HXB; have HXB := HXBZ; clear HXBZ)); (try (have HSZ := Lib.hid (HS.out.below hb8); clear HS; have HS := HSZ; clear HSZ)); (try (have HKAZ := Lib.hid (HKA.out.below hb8); clear HKA; have HKA := HKAZ; clear HKAZ)); (try (have HKBZ := Lib.hid (HKB.out.below hb8); clear HKB; have HKB := HKBZ; clear HKBZ)); (try (have HYZ := Lib.hid (HY.out.below hb8); clear HY; have HY := HYZ; clear HYZ)); (try (have HYBZ := Lib.hid (HYB.out.below hb8); clear HYB; have HYB := HYBZ; clear HYBZ)); (try (have HWZ := Lib.hid (HW.out.below hb8); clear HW; have HW := HWZ; clear HWZ)); (try (have HWBZ := Lib.hid (HWB.out.below hb8); clear HWB; have HWB := HWBZ; clear HWBZ)); clear hs hb8; (try (clear kp)); (try (clear kx)); (try (clear ky)); (try (clear kw)); (try (have kp := HPB.out.cell)); (try (have kx := HXB.out.cell)); (try (have ky := HYB.out.cell)); (try (have kw := HWB.out.cell)))
  go_upto_region 9 with (go_at_call 9; (with_reducible refine (ex0_call HP.out).mono ?_); rintro e w9 ⟨aw0, cw0, ae0, ce0, rfl, hx, hb9⟩; have HBZ := Lib.hid (bon HB.out hb9); clear HB; have HB := HBZ; clear HBZ; (try (have HPZ := Lib.hid (HP.out.below hb9); clear HP; have HP := HPZ; clear HPZ)); (try (have HPBZ := Lib.hid (HPB.out.below hb9); clear HPB; have HPB := HPBZ; clear HPBZ)); (try (have HMZ := Lib.hid (HM.out.below hb9); clear HM; have HM := HMZ; clear HMZ)); (try (have HXZ := Lib.hid (HX.out.below hb9); clear HX; have HX := HXZ; clear HXZ)); (try (have HXBZ := Lib.hid (HXB.out.below hb9); clear HXB; have HXB := HXBZ; clear HXBZ)); (try (have HSZ := Lib.hid (HS.out.below hb9); clear HS; have HS := HSZ; clear HSZ)); (try (have HKAZ := Lib.hid (HKA.out.below hb9); clear HKA; have HKA := HKAZ; clear HKAZ)); (try (have HKBZ := Lib.hid (HKB.out.below hb9); clear HKB; have HKB := HKBZ; clear HKBZ)); (try (have HYZ := Lib.hid (HY.out.below hb9); clear HY; have HY := HYZ; clear HYZ)); (try (have HYBZ := Lib.hid (HYB.out.below hb9); clear HYB; have HYB := HYBZ; clear HYBZ)); (try (have HWZ := Lib.hid (HW.out.below hb9); clear HW; have HW := HWZ; clear HWZ)); (try (have HWBZ := Lib.hid (HWB.out.below hb9); clear HWB; have HWB := HWBZ; clear HWBZ)); clear hx hb9)
  have hal := bal (Below.refl w9.heap.size w9) (.cells #[.slice aw0 0 cw0, .slice ae0 0 ce0] 30)
  have HBZ := Lib.hid (bon HB.out hal); clear HB; have HB := HBZ; clear HBZ; (try (have HPZ := Lib.hid (HP.out.below hal); clear HP; have HP := HPZ; clear HPZ)); (try (have HPBZ := Lib.hid (HPB.out.below hal); clear HPB; have HPB := HPBZ; clear HPBZ)); (try (have HMZ := Lib.hid (HM.out.below hal); clear HM; have HM := HMZ; clear HMZ)); (try (have HXZ := Lib.hid (HX.out.below hal); clear HX; have HX := HXZ; clear HXZ)); (try (have HXBZ := Lib.hid (HXB.out.below hal); clear HXB; have HXB := HXBZ; clear HXBZ)); (try (have HSZ := Lib.hid (HS.out.below hal); clear HS; have HS := HSZ; clear HSZ)); (try (have HKAZ := Lib.hid (HKA.out.below hal); clear HKA; have HKA := HKAZ; clear HKAZ)); (try (have HKBZ := Lib.hid (HKB.out.below hal); clear HKB; have HKB := HKBZ; clear HKBZ)); (try (have HYZ := Lib.hid (HY.out.below hal); clear HY; have HY := HYZ; clear HYZ)); (try (have HYBZ := Lib.hid (HYB.out.below hal); clear HYB; have HYB := HYBZ; clear HYBZ)); (try (have HWZ := Lib.hid (HW.out.below hal); clear HW; have HW := HWZ; clear HWZ)); (try (have HWBZ := Lib.hid (HWB.out.below hal); clear HWB; have HWB := HWBZ; clear HWBZ))
  clear hal
  generalize w9.alloc (.cells #[.slice aw0 0 cw0, .slice ae0 0 ce0] 30) = w6 at *
  generalize w9.heap.size = nb at *
  (try (clear kp)); (try (clear kx)); (try (clear ky)); (try (clear kw)); (try (have kp := HPB.out.cell)); (try (have kx := HXB.out.cell)); (try (have ky := HYB.out.cell)); (try (have kw := HWB.out.cell))
  go_wp2_with fail
  generalize hW : World.alloc _ (.cells #[.bool false, .slice (some ⟨w6.heap.size, 0, none⟩) 2 2, .bool false, .int .i64 0, .slice none 0 0, .slice none 0 0, .bool false, .slice (some ⟨w6.heap.size + 1, 0, none⟩) 1 1, .bool false, .int .i64 0, .slice (some ⟨w6.heap.size + 1 + 1, 0, none⟩) 1 1, .slice none 0 0, .bool false, .slice (some ⟨w6.heap.size + 1 + 1 + 1, 0, none⟩) 1 1, .bool false, .int .i64 0, .slice (some ⟨w6.heap.size + 1 + 1 + 1 + 1, 0, none⟩) 1 1, .slice none 0 0] 64) = W9
  have b0 : Blk W9 (w6.heap.size) ([1, 2].map (Value.int .i64)) 3 := by rw [← hW]; (repeat first | (refine Blk.newAt _ _ _ ?_; first | rfl | (simp only [World.size_alloc]; done) | (simp only [World.size_alloc]; omega)) | refine Blk.alloc ?_ _)
  have b1 : Blk W9 (w6.heap.size + 1) ([1].map (Value.int .i64)) 3 := by rw [← hW]; (repeat first | (refine Blk.newAt _ _ _ ?_; first | rfl | (simp only [World.size_alloc]; done) | (simp only [World.size_alloc]; omega)) | refine Blk.alloc ?_ _)
  have b2 : Blk W9 (w6.heap.size + 1 + 1) ([2].map (Value.int .i64)) 3 := by rw [← hW]; (repeat first | (refine Blk.newAt _ _ _ ?_; first | rfl | (simp only [World.size_alloc]; done) | (simp only [World.size_alloc]; omega)) | refine Blk.alloc ?_ _)
  have b3 : Blk W9 (w6.heap.size + 1 + 1 + 1) ([2].map (Value.int .i64)) 3 := by rw [← hW]; (repeat first | (refine Blk.newAt _ _ _ ?_; first | rfl | (simp only [World.size_alloc]; done) | (simp only [World.size_alloc]; omega)) | refine Blk.alloc ?_ _)
  have b4 : Blk W9 (w6.heap.size + 1 + 1 + 1 + 1) ([1].map (Value.int .i64)) 3 := by rw [← hW]; (repeat first | (refine Blk.newAt _ _ _ ?_; first | rfl | (simp only [World.size_alloc]; done) | (simp only [World.size_alloc]; omega)) | refine Blk.alloc ?_ _)
  have br : Blk W9 (w6.heap.size + 1 + 1 + 1 + 1 + 1) ([((⟨false, [1, 2], false, 0, [], []⟩ : GR), Value.slice (some ⟨w6.heap.size, 0, none⟩) 2 2, Value.slice none 0 0, Value.slice none 0 0), ((⟨false, [1], false, 0, [2], []⟩ : GR), Value.slice (some ⟨w6.heap.size + 1, 0, none⟩) 1 1, Value.slice (some ⟨w6.heap.size + 1 + 1, 0, none⟩) 1 1, Value.slice none 0 0), ((⟨false, [2], false, 0, [1], []⟩ : GR), Value.slice (some ⟨w6.heap.size + 1 + 1 + 1, 0, none⟩) 1 1, Value.slice (some ⟨w6.heap.size + 1 + 1 + 1 + 1, 0, none⟩) 1 1, Value.slice none 0 0)].flatMap cells6) 64 := by rw [← hW]; (repeat first | (refine Blk.newAt _ _ _ ?_; first | rfl | (simp only [World.size_alloc]; done) | (simp only [World.size_alloc]; omega)) | refine Blk.alloc ?_ _)
  have hR : RulesIs W9 (.slice (some ⟨w6.heap.size + 1 + 1 + 1 + 1 + 1, 0, none⟩) 3 3) [⟨false, [1, 2], false, 0, [], []⟩, ⟨false, [1], false, 0, [2], []⟩, ⟨false, [2], false, 0, [1], []⟩] := br.rules (fun q hq => by
    simp only [List.mem_cons, List.not_mem_nil, or_false] at hq
    rcases hq with rfl | rfl | rfl
    · exact ⟨b0.intsL (by decide), nil_ints _, nil_ints _, (show InI 0 from inI_small (by decide))⟩
    · exact ⟨b1.intsL (by decide), b2.intsL (by decide), nil_ints _, (show InI 0 from inI_small (by decide))⟩
    · exact ⟨b3.intsL (by decide), b4.intsL (by decide), nil_ints _, (show InI 0 from inI_small (by decide))⟩) (by simp)
  have hb9 : Below w6.heap.size w6 W9 := by rw [← hW]; repeat first | exact Below.refl _ _ | refine bal ?_ _
  have HR := Lib.hid hR
  clear hW hR br b0 b1 b2 b3 b4
  (have HBZ := Lib.hid (bon HB.out hb9); clear HB; have HB := HBZ; clear HBZ; (try (have HPZ := Lib.hid (HP.out.below hb9); clear HP; have HP := HPZ; clear HPZ)); (try (have HPBZ := Lib.hid (HPB.out.below hb9); clear HPB; have HPB := HPBZ; clear HPBZ)); (try (have HMZ := Lib.hid (HM.out.below hb9); clear HM; have HM := HMZ; clear HMZ)); (try (have HXZ := Lib.hid (HX.out.below hb9); clear HX; have HX := HXZ; clear HXZ)); (try (have HXBZ := Lib.hid (HXB.out.below hb9); clear HXB; have HXB := HXBZ; clear HXBZ)); (try (have HSZ := Lib.hid (HS.out.below hb9); clear HS; have HS := HSZ; clear HSZ)); (try (have HKAZ := Lib.hid (HKA.out.below hb9); clear HKA; have HKA := HKAZ; clear HKAZ)); (try (have HKBZ := Lib.hid (HKB.out.below hb9); clear HKB; have HKB := HKBZ; clear HKBZ)); (try (have HYZ := Lib.hid (HY.out.below hb9); clear HY; have HY := HYZ; clear HYZ)); (try (have HYBZ := Lib.hid (HYB.out.below hb9); clear HYB; have HYB := HYBZ; clear HYBZ)); (try (have HWZ := Lib.hid (HW.out.below hb9); clear HW; have HW := HWZ; clear HWZ)); (try (have HWBZ := Lib.hid (HWB.out.below hb9); clear HWB; have HWB := HWBZ; clear HWBZ)))
  clear hb9
  refine (with_any 2 (by decide) _ eyR W9 HR.out).mono ?_
  rintro e w10 ⟨rfl, hn, hb10⟩
  have HQ := Lib.hid (with_prog (by decide) hn (HR.out.below hb10))
  (have HBZ := Lib.hid (bon HB.out hb10); clear HB; have HB := HBZ; clear HBZ; (try (have HPZ := Lib.hid (HP.out.below hb10); clear HP; have HP := HPZ; clear HPZ)); (try (have HPBZ := Lib.hid (HPB.out.below hb10); clear HPB; have HPB := HPBZ; clear HPBZ)); (try (have HMZ := Lib.hid (HM.out.below hb10); clear HM; have HM := HMZ; clear HMZ)); (try (have HXZ := Lib.hid (HX.out.below hb10); clear HX; have HX := HXZ; clear HXZ)); (try (have HXBZ := Lib.hid (HXB.out.below hb10); clear HXB; have HXB := HXBZ; clear HXBZ)); (try (have HSZ := Lib.hid (HS.out.below hb10); clear HS; have HS := HSZ; clear HSZ)); (try (have HKAZ := Lib.hid (HKA.out.below hb10); clear HKA; have HKA := HKAZ; clear HKAZ)); (try (have HKBZ := Lib.hid (HKB.out.below hb10); clear HKB; have HKB := HKBZ; clear HKBZ)); (try (have HYZ := Lib.hid (HY.out.below hb10); clear HY; have HY := HYZ; clear HYZ)); (try (have HYBZ := Lib.hid (HYB.out.below hb10); clear HYB; have HYB := HYBZ; clear HYBZ)); (try (have HWZ := Lib.hid (HW.out.below hb10); clear HW; have HW := HWZ; clear HWZ)); (try (have HWBZ := Lib.hid (HWB.out.below hb10); clear HWB; have HWB := HWBZ; clear HWBZ)))
  clear hn hb10 HR
  generalize w6.heap.size + 1 + 1 + 1 + 1 + 1 = rb at *
  generalize W9.heap.size + 1 = sb at *
  have hal := bal (Below.refl w10.heap.size w10) (.cells #[.int .i64 1, .int .i64 2] 3)
  have HM2 : Hid (Ints (w10.alloc (.cells #[.int .i64 1, .int .i64 2] 3)) (.slice (some ⟨w10.heap.size, 0, none⟩) 2 2) [1, 2]) := Lib.hid (Blk.intsL (l := [1, 2]) (Blk.new w10 [.int .i64 1, .int .i64 2] 3) (by decide))
  have HQ2 := Lib.hid (HQ.out.below hal)
  (have HBZ := Lib.hid (bon HB.out hal); clear HB; have HB := HBZ; clear HBZ; (try (have HPZ := Lib.hid (HP.out.below hal); clear HP; have HP := HPZ; clear HPZ)); (try (have HPBZ := Lib.hid (HPB.out.below hal); clear HPB; have HPB := HPBZ; clear HPBZ)); (try (have HMZ := Lib.hid (HM.out.below hal); clear HM; have HM := HMZ; clear HMZ)); (try (have HXZ := Lib.hid (HX.out.below hal); clear HX; have HX := HXZ; clear HXZ)); (try (have HXBZ := Lib.hid (HXB.out.below hal); clear HXB; have HXB := HXBZ; clear HXBZ)); (try (have HSZ := Lib.hid (HS.out.below hal); clear HS; have HS := HSZ; clear HSZ)); (try (have HKAZ := Lib.hid (HKA.out.below hal); clear HKA; have HKA := HKAZ; clear HKAZ)); (try (have HKBZ := Lib.hid (HKB.out.below hal); clear HKB; have HKB := HKBZ; clear HKBZ)); (try (have HYZ := Lib.hid (HY.out.below hal); clear HY; have HY := HYZ; clear HYZ)); (try (have HYBZ := Lib.hid (HYB.out.below hal); clear HYB; have HYB := HYBZ; clear HYBZ)); (try (have HWZ := Lib.hid (HW.out.below hal); clear HW; have HW := HWZ; clear HWZ)); (try (have HWBZ := Lib.hid (HWB.out.below hal); clear HWB; have HWB := HWBZ; clear HWBZ)))
  clear hal HQ
  (try (clear kp)); (try (clear kx)); (try (clear ky)); (try (clear kw)); (try (have kp := HPB.out.cell)); (try (have kx := HXB.out.cell)); (try (have ky := HYB.out.cell)); (try (have kw := HWB.out.cell))
  go_upto_region 10 with (go_at_call 9; (with_reducible refine (eyX_call HQ2.out HM2.out).mono ?_); rintro e w11 ⟨awy, cwy, aey, cey, rfl, hy, hb11⟩; have HBZ := Lib.hid (bon HB.out hb11); clear HB; have HB := HBZ; clear HBZ; (try (have HPZ := Lib.hid (HP.out.below hb11); clear HP; have HP := HPZ; clear HPZ)); (try (have HPBZ := Lib.hid (HPB.out.below hb11); clear HPB; have HPB := HPBZ; clear HPBZ)); (try (have HMZ := Lib.hid (HM.out.below hb11); clear HM; have HM := HMZ; clear HMZ)); (try (have HXZ := Lib.hid (HX.out.below hb11); clear HX; have HX := HXZ; clear HXZ)); (try (have HXBZ := Lib.hid (HXB.out.below hb11); clear HXB; have HXB := HXBZ; clear HXBZ)); (try (have HSZ := Lib.hid (HS.out.below hb11); clear HS; have HS := HSZ; clear HSZ)); (try (have HKAZ := Lib.hid (HKA.out.below hb11); clear HKA; have HKA := HKAZ; clear HKAZ)); (try (have HKBZ := Lib.hid (HKB.out.below hb11); clear HKB; have HKB := HKBZ; clear HKBZ)); (try (have HYZ := Lib.hid (HY.out.below hb11); clear HY; have HY := HYZ; clear HYZ)); (try (have HYBZ := Lib.hid (HYB.out.below hb11); clear HYB; have HYB := HYBZ; clear HYBZ)); (try (have HWZ := Lib.hid (HW.out.below hb11); clear HW; have HW := HWZ; clear HWZ)); (try (have HWBZ := Lib.hid (HWB.out.below hb11); clear HWB; have HWB := HWBZ; clear HWBZ)); have HY := Lib.hid hy; clear hy hb11)
  have hal := bal (Below.refl w11.heap.size w11) (.cells #[.slice awy 0 cwy, .slice aey 2 cey] 30)
  (have HBZ := Lib.hid (bon HB.out hal); clear HB; have HB := HBZ; clear HBZ; (try (have HPZ := Lib.hid (HP.out.below hal); clear HP; have HP := HPZ; clear HPZ)); (try (have HPBZ := Lib.hid (HPB.out.below hal); clear HPB; have HPB := HPBZ; clear HPBZ)); (try (have HMZ := Lib.hid (HM.out.below hal); clear HM; have HM := HMZ; clear HMZ)); (try (have HXZ := Lib.hid (HX.out.below hal); clear HX; have HX := HXZ; clear HXZ)); (try (have HXBZ := Lib.hid (HXB.out.below hal); clear HXB; have HXB := HXBZ; clear HXBZ)); (try (have HSZ := Lib.hid (HS.out.below hal); clear HS; have HS := HSZ; clear HSZ)); (try (have HKAZ := Lib.hid (HKA.out.below hal); clear HKA; have HKA := HKAZ; clear HKAZ)); (try (have HKBZ := Lib.hid (HKB.out.below hal); clear HKB; have HKB := HKBZ; clear HKBZ)); (try (have HYZ := Lib.hid (HY.out.below hal); clear HY; have HY := HYZ; clear HYZ)); (try (have HYBZ := Lib.hid (HYB.out.below hal); clear HYB; have HYB := HYBZ; clear HYBZ)); (try (have HWZ := Lib.hid (HW.out.below hal); clear HW; have HW := HWZ; clear HWZ)); (try (have HWBZ := Lib.hid (HWB.out.below hal); clear HWB; have HWB := HWBZ; clear HWBZ)))
  have HYB := Lib.hid (Blk.new w11 [.slice awy 0 cwy, .slice aey 2 cey] 30)
  clear hal HM2 HQ2
  generalize w11.alloc (.cells #[.slice awy 0 cwy, .slice aey 2 cey] 30) = W11 at *
  generalize w11.heap.size = yb at *
  (try (clear kp)); (try (clear kx)); (try (clear ky)); (try (clear kw)); (try (have kp := HPB.out.cell)); (try (have kx := HXB.out.cell)); (try (have ky := HYB.out.cell)); (try (have kw := HWB.out.cell))
  go_upto_region 11 with fail
  have hal := bal (bal (Below.refl W11.heap.size W11) (.cells #[.int .i64 1, .int .i64 0, .int .i64 1, .int .i64 3, .int .i64 1, .int .i64 2, .int .i64 5, .int .i64 2, .int .i64 3] 49)) (.cells #[.slice (some ⟨W11.heap.size, 0, none⟩) 3 3, .slice none 0 0] 30)
  have HW := Lib.hid (ex_lit ((Blk.new W11 [.int .i64 1, .int .i64 0, .int .i64 1, .int .i64 3, .int .i64 1, .int .i64 2, .int .i64 5, .int .i64 2, .int .i64 3] 49).alloc (.cells #[.slice (some ⟨W11.heap.size, 0, none⟩) 3 3, .slice none 0 0] 30)))
  have HWB := Lib.hid (Blk.newAt (W11.alloc (.cells #[.int .i64 1, .int .i64 0, .int .i64 1, .int .i64 3, .int .i64 1, .int .i64 2, .int .i64 5, .int .i64 2, .int .i64 3] 49)) [.slice (some ⟨W11.heap.size, 0, none⟩) 3 3, .slice none 0 0] 30 (show W11.heap.size + 1 = _ by simp))
  have HBZ := Lib.hid (bon HB.out hal); clear HB; have HB := HBZ; clear HBZ
  have HPZ := Lib.hid (HP.out.below hal); clear HP; have HP := HPZ; clear HPZ
  have HPBZ := Lib.hid (HPB.out.below hal); clear HPB; have HPB := HPBZ; clear HPBZ
  have HMZ := Lib.hid (HM.out.below hal); clear HM; have HM := HMZ; clear HMZ
  have HXZ := Lib.hid (HX.out.below hal); clear HX; have HX := HXZ; clear HXZ
  have HXBZ := Lib.hid (HXB.out.below hal); clear HXB; have HXB := HXBZ; clear HXBZ
  have HSZ := Lib.hid (HS.out.below hal); clear HS; have HS := HSZ; clear HSZ
  have HKAZ := Lib.hid (HKA.out.below hal); clear HKA; have HKA := HKAZ; clear HKAZ
  have HKBZ := Lib.hid (HKB.out.below hal); clear HKB; have HKB := HKBZ; clear HKBZ
  have HYZ := Lib.hid (HY.out.below hal); clear HY; have HY := HYZ; clear HYZ
  have HYBZ := Lib.hid (HYB.out.below hal); clear HYB; have HYB := HYBZ; clear HYBZ
  clear hal
  generalize (W11.alloc (.cells #[.int .i64 1, .int .i64 0, .int .i64 1, .int .i64 3, .int .i64 1, .int .i64 2, .int .i64 5, .int .i64 2, .int .i64 3] 49)).alloc (.cells #[.slice (some ⟨W11.heap.size, 0, none⟩) 3 3, .slice none 0 0] 30) = W12 at *
  generalize W11.heap.size + 1 = wb at *
  generalize W11.heap.size = wr0 at *
  (try (clear kp)); (try (clear kx)); (try (clear ky)); (try (clear kw)); (try (have kp := HPB.out.cell)); (try (have kx := HXB.out.cell)); (try (have ky := HYB.out.cell)); (try (have kw := HWB.out.cell))
  go_wp2_with (first
    | (go_at_call 13; (with_reducible refine (exT_call HP.out HX.out).mono ?_); rintro e w18 ⟨rfl, hb18⟩; have HBZ := Lib.hid (bon HB.out hb18); clear HB; have HB := HBZ; clear HBZ; (try (have HPZ := Lib.hid (HP.out.below hb18); clear HP; have HP := HPZ; clear HPZ)); (try (have HPBZ := Lib.hid (HPB.out.below hb18); clear HPB; have HPB := HPBZ; clear HPBZ)); (try (have HMZ := Lib.hid (HM.out.below hb18); clear HM; have HM := HMZ; clear HMZ)); (try (have HXZ := Lib.hid (HX.out.below hb18); clear HX; have HX := HXZ; clear HXZ)); (try (have HXBZ := Lib.hid (HXB.out.below hb18); clear HXB; have HXB := HXBZ; clear HXBZ)); (try (have HSZ := Lib.hid (HS.out.below hb18); clear HS; have HS := HSZ; clear HSZ)); (try (have HKAZ := Lib.hid (HKA.out.below hb18); clear HKA; have HKA := HKAZ; clear HKAZ)); (try (have HKBZ := Lib.hid (HKB.out.below hb18); clear HKB; have HKB := HKBZ; clear HKBZ)); (try (have HYZ := Lib.hid (HY.out.below hb18); clear HY; have HY := HYZ; clear HYZ)); (try (have HYBZ := Lib.hid (HYB.out.below hb18); clear HYB; have HYB := HYBZ; clear HYBZ)); (try (have HWZ := Lib.hid (HW.out.below hb18); clear HW; have HW := HWZ; clear HWZ)); (try (have HWBZ := Lib.hid (HWB.out.below hb18); clear HWB; have HWB := HWBZ; clear HWBZ)); clear hb18; (try (clear kp)); (try (clear kx)); (try (clear ky)); (try (clear kw)); (try (have kp := HPB.out.cell)); (try (have kx := HXB.out.cell)); (try (have ky := HYB.out.cell)); (try (have kw := HWB.out.cell)))
    | (go_at_call 15; (with_reducible refine (same_t HX.out HW.out).mono ?_); rintro e w13 ⟨rfl, hb13⟩; have HBZ := Lib.hid (bon HB.out hb13); clear HB; have HB := HBZ; clear HBZ; (try (have HPZ := Lib.hid (HP.out.below hb13); clear HP; have HP := HPZ; clear HPZ)); (try (have HPBZ := Lib.hid (HPB.out.below hb13); clear HPB; have HPB := HPBZ; clear HPBZ)); (try (have HMZ := Lib.hid (HM.out.below hb13); clear HM; have HM := HMZ; clear HMZ)); (try (have HXZ := Lib.hid (HX.out.below hb13); clear HX; have HX := HXZ; clear HXZ)); (try (have HXBZ := Lib.hid (HXB.out.below hb13); clear HXB; have HXB := HXBZ; clear HXBZ)); (try (have HSZ := Lib.hid (HS.out.below hb13); clear HS; have HS := HSZ; clear HSZ)); (try (have HKAZ := Lib.hid (HKA.out.below hb13); clear HKA; have HKA := HKAZ; clear HKAZ)); (try (have HKBZ := Lib.hid (HKB.out.below hb13); clear HKB; have HKB := HKBZ; clear HKBZ)); (try (have HYZ := Lib.hid (HY.out.below hb13); clear HY; have HY := HYZ; clear HYZ)); (try (have HYBZ := Lib.hid (HYB.out.below hb13); clear HYB; have HYB := HYBZ; clear HYBZ)); (try (have HWZ := Lib.hid (HW.out.below hb13); clear HW; have HW := HWZ; clear HWZ)); (try (have HWBZ := Lib.hid (HWB.out.below hb13); clear HWB; have HWB := HWBZ; clear HWBZ)); clear hb13; (try (clear kp)); (try (clear kx)); (try (clear ky)); (try (clear kw)); (try (have kp := HPB.out.cell)); (try (have kx := HXB.out.cell)); (try (have ky := HYB.out.cell)); (try (have kw := HWB.out.cell)))
    | (go_at_call 15; (with_reducible refine (same_t (HY.out.below (bal (Below.refl _ _) _)) (ey_lit _)).mono ?_); rintro e w17 ⟨rfl, hb17⟩; have hbz := bon (bal (Below.refl _ _) _) hb17; have HBZ := Lib.hid (bon HB.out hbz); clear HB; have HB := HBZ; clear HBZ; (try (have HPZ := Lib.hid (HP.out.below hbz); clear HP; have HP := HPZ; clear HPZ)); (try (have HPBZ := Lib.hid (HPB.out.below hbz); clear HPB; have HPB := HPBZ; clear HPBZ)); (try (have HMZ := Lib.hid (HM.out.below hbz); clear HM; have HM := HMZ; clear HMZ)); (try (have HXZ := Lib.hid (HX.out.below hbz); clear HX; have HX := HXZ; clear HXZ)); (try (have HXBZ := Lib.hid (HXB.out.below hbz); clear HXB; have HXB := HXBZ; clear HXBZ)); (try (have HSZ := Lib.hid (HS.out.below hbz); clear HS; have HS := HSZ; clear HSZ)); (try (have HKAZ := Lib.hid (HKA.out.below hbz); clear HKA; have HKA := HKAZ; clear HKAZ)); (try (have HKBZ := Lib.hid (HKB.out.below hbz); clear HKB; have HKB := HKBZ; clear HKBZ)); (try (have HYZ := Lib.hid (HY.out.below hbz); clear HY; have HY := HYZ; clear HYZ)); (try (have HYBZ := Lib.hid (HYB.out.below hbz); clear HYB; have HYB := HYBZ; clear HYBZ)); (try (have HWZ := Lib.hid (HW.out.below hbz); clear HW; have HW := HWZ; clear HWZ)); (try (have HWBZ := Lib.hid (HWB.out.below hbz); clear HWB; have HWB := HWBZ; clear HWBZ)); clear hbz hb17; (try (clear kp)); (try (clear kx)); (try (clear ky)); (try (clear kw)); (try (have kp := HPB.out.cell)); (try (have kx := HXB.out.cell)); (try (have ky := HYB.out.cell)); (try (have kw := HWB.out.cell)))
    | (go_at_call 18; (with_reducible refine (ints_t HS.out HM.out).mono ?_); rintro e w14 ⟨rfl, hb14⟩; have HBZ := Lib.hid (bon HB.out hb14); clear HB; have HB := HBZ; clear HBZ; (try (have HPZ := Lib.hid (HP.out.below hb14); clear HP; have HP := HPZ; clear HPZ)); (try (have HPBZ := Lib.hid (HPB.out.below hb14); clear HPB; have HPB := HPBZ; clear HPBZ)); (try (have HMZ := Lib.hid (HM.out.below hb14); clear HM; have HM := HMZ; clear HMZ)); (try (have HXZ := Lib.hid (HX.out.below hb14); clear HX; have HX := HXZ; clear HXZ)); (try (have HXBZ := Lib.hid (HXB.out.below hb14); clear HXB; have HXB := HXBZ; clear HXBZ)); (try (have HSZ := Lib.hid (HS.out.below hb14); clear HS; have HS := HSZ; clear HSZ)); (try (have HKAZ := Lib.hid (HKA.out.below hb14); clear HKA; have HKA := HKAZ; clear HKAZ)); (try (have HKBZ := Lib.hid (HKB.out.below hb14); clear HKB; have HKB := HKBZ; clear HKBZ)); (try (have HYZ := Lib.hid (HY.out.below hb14); clear HY; have HY := HYZ; clear HYZ)); (try (have HYBZ := Lib.hid (HYB.out.below hb14); clear HYB; have HYB := HYBZ; clear HYBZ)); (try (have HWZ := Lib.hid (HW.out.below hb14); clear HW; have HW := HWZ; clear HWZ)); (try (have HWBZ := Lib.hid (HWB.out.below hb14); clear HWB; have HWB := HWBZ; clear HWBZ)); clear hb14; (try (clear kp)); (try (clear kx)); (try (clear ky)); (try (clear kw)); (try (have kp := HPB.out.cell)); (try (have kx := HXB.out.cell)); (try (have ky := HYB.out.cell)); (try (have kw := HWB.out.cell)))
    | (go_at_call 20; (with_reducible refine (blocks_t (HKA.out.below (bal (Below.refl _ _) _)) (blk1 _ bi1)).mono ?_); rintro e w15 ⟨rfl, hb15⟩; have hbz := bon (bal (Below.refl _ _) _) hb15; have HBZ := Lib.hid (bon HB.out hbz); clear HB; have HB := HBZ; clear HBZ; (try (have HPZ := Lib.hid (HP.out.below hbz); clear HP; have HP := HPZ; clear HPZ)); (try (have HPBZ := Lib.hid (HPB.out.below hbz); clear HPB; have HPB := HPBZ; clear HPBZ)); (try (have HMZ := Lib.hid (HM.out.below hbz); clear HM; have HM := HMZ; clear HMZ)); (try (have HXZ := Lib.hid (HX.out.below hbz); clear HX; have HX := HXZ; clear HXZ)); (try (have HXBZ := Lib.hid (HXB.out.below hbz); clear HXB; have HXB := HXBZ; clear HXBZ)); (try (have HSZ := Lib.hid (HS.out.below hbz); clear HS; have HS := HSZ; clear HSZ)); (try (have HKAZ := Lib.hid (HKA.out.below hbz); clear HKA; have HKA := HKAZ; clear HKAZ)); (try (have HKBZ := Lib.hid (HKB.out.below hbz); clear HKB; have HKB := HKBZ; clear HKBZ)); (try (have HYZ := Lib.hid (HY.out.below hbz); clear HY; have HY := HYZ; clear HYZ)); (try (have HYBZ := Lib.hid (HYB.out.below hbz); clear HYB; have HYB := HYBZ; clear HYBZ)); (try (have HWZ := Lib.hid (HW.out.below hbz); clear HW; have HW := HWZ; clear HWZ)); (try (have HWBZ := Lib.hid (HWB.out.below hbz); clear HWB; have HWB := HWBZ; clear HWBZ)); clear hbz hb15; (try (clear kp)); (try (clear kx)); (try (clear ky)); (try (clear kw)); (try (have kp := HPB.out.cell)); (try (have kx := HXB.out.cell)); (try (have ky := HYB.out.cell)); (try (have kw := HWB.out.cell)))
    | (go_at_call 20; (with_reducible refine (blocks_t (HKB.out.below (bal (Below.refl _ _) _)) (blk1 _ bi2)).mono ?_); rintro e w16 ⟨rfl, hb16⟩; have hbz := bon (bal (Below.refl _ _) _) hb16; have HBZ := Lib.hid (bon HB.out hbz); clear HB; have HB := HBZ; clear HBZ; (try (have HPZ := Lib.hid (HP.out.below hbz); clear HP; have HP := HPZ; clear HPZ)); (try (have HPBZ := Lib.hid (HPB.out.below hbz); clear HPB; have HPB := HPBZ; clear HPBZ)); (try (have HMZ := Lib.hid (HM.out.below hbz); clear HM; have HM := HMZ; clear HMZ)); (try (have HXZ := Lib.hid (HX.out.below hbz); clear HX; have HX := HXZ; clear HXZ)); (try (have HXBZ := Lib.hid (HXB.out.below hbz); clear HXB; have HXB := HXBZ; clear HXBZ)); (try (have HSZ := Lib.hid (HS.out.below hbz); clear HS; have HS := HSZ; clear HSZ)); (try (have HKAZ := Lib.hid (HKA.out.below hbz); clear HKA; have HKA := HKAZ; clear HKAZ)); (try (have HKBZ := Lib.hid (HKB.out.below hbz); clear HKB; have HKB := HKBZ; clear HKBZ)); (try (have HYZ := Lib.hid (HY.out.below hbz); clear HY; have HY := HYZ; clear HYZ)); (try (have HYBZ := Lib.hid (HYB.out.below hbz); clear HYB; have HYB := HYBZ; clear HYBZ)); (try (have HWZ := Lib.hid (HW.out.below hbz); clear HW; have HW := HWZ; clear HWZ)); (try (have HWBZ := Lib.hid (HWB.out.below hbz); clear HWB; have HWB := HWBZ; clear HWBZ)); clear hbz hb16; (try (clear kp)); (try (clear kx)); (try (clear ky)); (try (clear kw)); (try (have kp := HPB.out.cell)); (try (have kx := HXB.out.cell)); (try (have ky := HYB.out.cell)); (try (have kw := HWB.out.cell))))
  go_ret
  exact ⟨rfl, HB.out⟩
structure E41 (w : World) (p : GP) (vn vs vr vm : Value) (W : World) : Prop where
  box : Blk W w.heap.size [.int .i64 p.n, vn, vs, vr, vm] 27
  prog : ProgIs W (.agg #[.int .i64 p.n, vn, vs, vr, vm]) p
  below : Below w.heap.size w W
theorem E41.on {w W W' : World} {p : GP} {vn vs vr vm : Value} (h : E41 w p vn vs vr vm W) (hb : Below W.heap.size W W') : E41 w p vn vs vr vm W' := ⟨h.box.below hb, h.prog.below hb, bon h.below hb⟩
theorem E41.start {w : World} {p : GP} {vn vs vr vm : Value} (h : ProgIs w (.agg #[.int .i64 p.n, vn, vs, vr, vm]) p) : E41 w p vn vs vr vm (w.alloc (.cells #[.int .i64 p.n, vn, vs, vr, vm] 27)) := by
  have hal : Below w.heap.size w (w.alloc (.cells #[.int .i64 p.n, vn, vs, vr, vm] 27)) := bal (Below.refl _ _) _
  exact ⟨Blk.new w _ _, h.below hal, hal⟩
structure Eb41 (w : World) (p : GP) (vn vs vr vm vS : Value) (m : List Int) (vL : Value) (L : List BK) (W : World) : Prop where
  st : E41 w p vn vs vr vm W
  set : Ints W vS m
  blk : BlksIs W vL L
theorem Eb41.on {w W W' : World} {p : GP} {vn vs vr vm vS vL : Value} {m : List Int} {L : List BK} (h : Eb41 w p vn vs vr vm vS m vL L W) (hb : Below W.heap.size W W') : Eb41 w p vn vs vr vm vS m vL L W' := ⟨h.st.on hb, h.set.below hb, h.blk.below hb⟩
structure RA (w : World) (fv : Value) (rb : Nat) (v1 v2 : Value) (la lb : List Int) (b bd rest x y : Int) (vals : Nat → Value) (L : Nat → Bool) (wx : World) : Prop where
  below : Below w.heap.size w wx
  t0 : L 0 = true → vals 0 = fv
  t1 : L 1 = true → vals 1 = .pointer (some ⟨rb, 4, none⟩)
  t2 : L 2 = true → vals 2 = v1
  t4 : L 4 = true → vals 4 = .int .i64 b
  t5 : L 5 = true → vals 5 = .int .i64 x
  t8 : L 8 = true → vals 8 = .pointer (some ⟨rb, 5, none⟩)
  t9 : L 9 = true → vals 9 = v2
  t11 : L 11 = true → vals 11 = .pointer (some ⟨rb, 3, none⟩)
  t12 : L 12 = true → vals 12 = .int .i64 bd
  t15 : L 15 = true → vals 15 = .pointer (some ⟨rb, 3, none⟩)
  t16 : L 16 = true → vals 16 = .int .i64 bd
  ra : L 3 = true → QRow w.heap.size wx (if L 7 then vals 7 else vals 3) (if L 7 then la ++ [x] else la)
  rb : L 10 = true → QRow w.heap.size wx (if L 14 then vals 14 else vals 10) (if L 14 then lb ++ [y] else lb)
  far : L 3 = true → L 10 = true → Far (if L 7 then vals 7 else vals 3) (if L 14 then vals 14 else vals 10)
  sa : L 6 = true → L 7 = false → ∃ g, vals 6 = .slice (some ⟨g, 0, none⟩) 1 1 ∧ Blk wx g [.int .i64 x] 3
  sb : L 13 = true → L 14 = false → ∃ g, vals 13 = .slice (some ⟨g, 0, none⟩) 1 1 ∧ Blk wx g [.int .i64 y] 3 ∧ (L 3 = true → (if L 7 then vals 7 else vals 3).ownBlock ≠ some g)
section
variable {w : World} {fv : Value} {rb : Nat} {v1 v2 : Value} {la lb : List Int} {b bd rest x y : Int} {vals : Nat → Value} {L : Nat → Bool} {wx w' : World} {v : Value}
theorem RA.start : RA w fv rb v1 v2 la lb b bd rest x y (fun _ => undef) (fun _ => false) w.drew := by
  constructor <;> first | exact (Below.refl _ _).drew | (intro h; cases h)
def RA.val (fv : Value) (rb : Nat) (v1 v2 : Value) (b bd _rest x _y : Int) : Nat → Value
  | 0 => fv
  | 1 => .pointer (some ⟨rb, 4, none⟩)
  | 2 => v1
  | 4 => .int .i64 b
  | 5 => .int .i64 x
  | 8 => .pointer (some ⟨rb, 5, none⟩)
  | 9 => v2
  | 11 => .pointer (some ⟨rb, 3, none⟩)
  | 12 => .int .i64 bd
  | 15 => .pointer (some ⟨rb, 3, none⟩)
  | 16 => .int .i64 bd
  | _ => undef
theorem RA.quiet (h : RA w fv rb v1 v2 la lb b bd rest x y vals L wx) (i : Nat) (hi : i = 0 ∨ i = 1 ∨ i = 2 ∨ i = 4 ∨ i = 5 ∨ i = 8 ∨ i = 9 ∨ i = 11 ∨ i = 12 ∨ i = 15 ∨ i = 16) : RA w fv rb v1 v2 la lb b bd rest x y (updN vals i (RA.val fv rb v1 v2 b bd rest x y i)) (updN L i true) wx := by
  obtain ⟨h0, t0, t1, t2, t4, t5, t8, t9, t11, t12, t15, t16, ra, rbb, far, sa, sb⟩ := h
  rcases hi with rfl | rfl | rfl | rfl | rfl | rfl | rfl | rfl | rfl | rfl | rfl <;> constructor <;> first | (simp [updN, RA.val]; done) | simpa [updN] using h0 | simpa [updN] using t0 | simpa [updN] using t1 | simpa [updN] using t2 | simpa [updN] using t4 | simpa [updN] using t5 | simpa [updN] using t8 | simpa [updN] using t9 | simpa [updN] using t11 | simpa [updN] using t12 | simpa [updN] using t15 | simpa [updN] using t16 | simpa [updN] using ra | simpa [updN] using rbb | simpa [updN] using far | simpa [updN] using sa | simpa [updN] using sb
def RA.J (w : World) (fv : Value) (rb : Nat) (v1 v2 : Value) (la lb : List Int) (b bd rest x y : Int) (Fin : World → Prop) (vals : Nat → Value) (L : Nat → Bool) (wx : World) : Prop := if L 17 then Fin wx else RA w fv rb v1 v2 la lb b bd rest x y vals L wx
variable {Fin : World → Prop} {i : Nat}
theorem RA.J.out (hz : L 17 = false) (h : RA.J w fv rb v1 v2 la lb b bd rest x y Fin vals L wx) : RA w fv rb v1 v2 la lb b bd rest x y vals L wx := by unfold RA.J at h; rw [hz] at h; exact h
theorem RA.J.on (hz : L 17 = false) (hi : i ≠ 17) (h : RA w fv rb v1 v2 la lb b bd rest x y (updN vals i v) (updN L i true) wx) : RA.J w fv rb v1 v2 la lb b bd rest x y Fin (updN vals i v) (updN L i true) wx := by
  have e : updN L i true 17 = false := by simp only [updN]; rw [if_neg (Ne.symm hi)]; exact hz
  unfold RA.J; rw [e]; exact h
theorem RA.J.end (h : Fin wx) : RA.J w fv rb v1 v2 la lb b bd rest x y Fin (updN vals 17 v) (updN L 17 true) wx := by
  have e : updN L 17 true 17 = true := by simp [updN]
  unfold RA.J; rw [e]; exact h
end
structure RB (w : World) (fv : Value) (rb : Nat) (v1 v2 : Value) (la lb : List Int) (b bd rest x y : Int) (vals : Nat → Value) (L : Nat → Bool) (wx : World) : Prop where
  below : Below w.heap.size w wx
  t0 : L 0 = true → vals 0 = fv
  t1 : L 1 = true → vals 1 = .pointer (some ⟨rb, 4, none⟩)
  t2 : L 2 = true → vals 2 = v1
  t4 : L 4 = true → vals 4 = .int .i64 b
  t7 : L 7 = true → vals 7 = .pointer (some ⟨rb, 5, none⟩)
  t8 : L 8 = true → vals 8 = v2
  t10 : L 10 = true → vals 10 = .int .i64 rest
  t11 : L 11 = true → vals 11 = .int .i64 y
  t14 : L 14 = true → vals 14 = .int .i64 rest
  ra : L 3 = true → QRow w.heap.size wx (if L 6 then vals 6 else vals 3) (if L 6 then la ++ [x] else la)
  rb : L 9 = true → QRow w.heap.size wx (if L 13 then vals 13 else vals 9) (if L 13 then lb ++ [y] else lb)
  far : L 3 = true → L 9 = true → Far (if L 6 then vals 6 else vals 3) (if L 13 then vals 13 else vals 9)
  sa : L 5 = true → L 6 = false → ∃ g, vals 5 = .slice (some ⟨g, 0, none⟩) 1 1 ∧ Blk wx g [.int .i64 x] 3
  sb : L 12 = true → L 13 = false → ∃ g, vals 12 = .slice (some ⟨g, 0, none⟩) 1 1 ∧ Blk wx g [.int .i64 y] 3 ∧ (L 3 = true → (if L 6 then vals 6 else vals 3).ownBlock ≠ some g)
section
variable {w : World} {fv : Value} {rb : Nat} {v1 v2 : Value} {la lb : List Int} {b bd rest x y : Int} {vals : Nat → Value} {L : Nat → Bool} {wx w' : World} {v : Value}
theorem RB.start : RB w fv rb v1 v2 la lb b bd rest x y (fun _ => undef) (fun _ => false) w.drew := by
  constructor <;> first | exact (Below.refl _ _).drew | (intro h; cases h)
def RB.val (fv : Value) (rb : Nat) (v1 v2 : Value) (b _bd rest _x y : Int) : Nat → Value
  | 0 => fv
  | 1 => .pointer (some ⟨rb, 4, none⟩)
  | 2 => v1
  | 4 => .int .i64 b
  | 7 => .pointer (some ⟨rb, 5, none⟩)
  | 8 => v2
  | 10 => .int .i64 rest
  | 11 => .int .i64 y
  | 14 => .int .i64 rest
  | _ => undef
theorem RB.quiet (h : RB w fv rb v1 v2 la lb b bd rest x y vals L wx) (i : Nat) (hi : i = 0 ∨ i = 1 ∨ i = 2 ∨ i = 4 ∨ i = 7 ∨ i = 8 ∨ i = 10 ∨ i = 11 ∨ i = 14) : RB w fv rb v1 v2 la lb b bd rest x y (updN vals i (RB.val fv rb v1 v2 b bd rest x y i)) (updN L i true) wx := by
  obtain ⟨h0, t0, t1, t2, t4, t7, t8, t10, t11, t14, ra, rbb, far, sa, sb⟩ := h
  rcases hi with rfl | rfl | rfl | rfl | rfl | rfl | rfl | rfl | rfl <;> constructor <;> first | (simp [updN, RB.val]; done) | simpa [updN] using h0 | simpa [updN] using t0 | simpa [updN] using t1 | simpa [updN] using t2 | simpa [updN] using t4 | simpa [updN] using t7 | simpa [updN] using t8 | simpa [updN] using t10 | simpa [updN] using t11 | simpa [updN] using t14 | simpa [updN] using ra | simpa [updN] using rbb | simpa [updN] using far | simpa [updN] using sa | simpa [updN] using sb
def RB.J (w : World) (fv : Value) (rb : Nat) (v1 v2 : Value) (la lb : List Int) (b bd rest x y : Int) (Fin : World → Prop) (vals : Nat → Value) (L : Nat → Bool) (wx : World) : Prop := if L 15 then Fin wx else RB w fv rb v1 v2 la lb b bd rest x y vals L wx
variable {Fin : World → Prop} {i : Nat}
theorem RB.J.out (hz : L 15 = false) (h : RB.J w fv rb v1 v2 la lb b bd rest x y Fin vals L wx) : RB w fv rb v1 v2 la lb b bd rest x y vals L wx := by unfold RB.J at h; rw [hz] at h; exact h
theorem RB.J.on (hz : L 15 = false) (hi : i ≠ 15) (h : RB w fv rb v1 v2 la lb b bd rest x y (updN vals i v) (updN L i true) wx) : RB.J w fv rb v1 v2 la lb b bd rest x y Fin (updN vals i v) (updN L i true) wx := by
  have e : updN L i true 15 = false := by simp only [updN]; rw [if_neg (Ne.symm hi)]; exact hz
  unfold RB.J; rw [e]; exact h
theorem RB.J.end (h : Fin wx) : RB.J w fv rb v1 v2 la lb b bd rest x y Fin (updN vals 15 v) (updN L 15 true) wx := by
  have e : updN L 15 true 15 = true := by simp [updN]
  unfold RB.J; rw [e]; exact h
end
section
variable {P : Program} {l : List Oper} {D : Nat → Nat → Bool} {Q : Exit → Act → World → Prop} {a0 : Act}
def StepK (P : Program) (l : List Oper) (a0 : Act) (W : (Nat → Value) → (Nat → Bool) → World → Prop) (i : Nat) (vals : Nat → Value) (L : Nat → Bool) (w : World) : Prop :=
  StepJ P l a0 W i vals L w ∧ (tame (opAt l i) = true ∨ Enters P (opAt l i) (Afr l a0 vals i) w)
theorem StepK.of {W : (Nat → Value) → (Nat → Bool) → World → Prop} {i : Nat} {vals : Nat → Value} {L : Nat → Bool} {w : World} (hw : Region.wanted (opAt l i) (yielded l.toArray (Afr l a0 vals i).tmps) = true) (ht : tame (opAt l i) = true)
    (h : ∀ K : Act → World → Prop, (∀ v w', W (updN vals i v) (updN L i true) w' → K ((Afr l a0 vals i).put (opAt l i).dst v) w') → (opAt l i).wp P (Afr l a0 vals i) w K (fun _ _ _ => False)) : StepK P l a0 W i vals L w := ⟨.of hw h, .inl ht⟩
theorem StepK.call {W : (Nat → Value) → (Nat → Bool) → World → Prop} {i : Nat} {vals : Nat → Value} {L : Nat → Bool} {w : World} (hw : Region.wanted (opAt l i) (yielded l.toArray (Afr l a0 vals i).tmps) = true) (ht : Enters P (opAt l i) (Afr l a0 vals i) w)
    (h : ∀ K : Act → World → Prop, (∀ v w', W (updN vals i v) (updN L i true) w' → K ((Afr l a0 vals i).put (opAt l i).dst v) w') → (opAt l i).wp P (Afr l a0 vals i) w K (fun _ _ _ => False)) : StepK P l a0 W i vals L w := ⟨.of hw h, .inr ht⟩
end
structure BoxP (b : Nat) (n : Int) (vn vr : Value) (p : GP) (W : World) : Prop where
  prog : ProgIs W (.agg #[.int .i64 n, vn, .slice none 0 0, vr, .slice none 0 0]) p
  box : Blk W b [.int .i64 n, vn, .slice none 0 0, vr, .slice none 0 0] 27
theorem BoxP.on {b : Nat} {n : Int} {vn vr : Value} {p : GP} {W W' : World} (h : BoxP b n vn vr p W) (hb : Below W.heap.size W W') : BoxP b n vn vr p W' := ⟨h.prog.below hb, h.box.below hb⟩
structure Sum3 (a : Option Addr) (b o : Nat) (v0 u0 v1 u1 v2 u2 : Value) (W : World) : Prop where
  lt : b < W.heap.size
  at0 : PBCells W b o ct1 v0 u0
  at1 : PBCells W b (o + 3) ct2 v1 u1
  at2 : PBCells W b (o + 6) ct3 v2 u2
  is0 : PBIs W (.agg #[v0, u0, .int .i64 2]) ct1
  is1 : PBIs W (.agg #[v1, u1, .int .i64 2]) ct2
  is2 : PBIs W (.agg #[v2, u2, .int .i64 1]) ct3
theorem Sum3.on {a : Option Addr} {b o : Nat} {v0 u0 v1 u1 v2 u2 : Value} {W W' : World} (h : Sum3 a b o v0 u0 v1 u1 v2 u2 W) (hb : Below W.heap.size W W') : Sum3 a b o v0 u0 v1 u1 v2 u2 W' :=
  ⟨Nat.lt_of_lt_of_le h.lt hb.size, h.at0.below hb h.lt, h.at1.below hb h.lt, h.at2.below hb h.lt, h.is0.below hb, h.is1.below hb, h.is2.below hb⟩
structure A4 (w : World) (bp : Nat) (an : Option Addr) (nn cn : Nat) (ar : Option Addr) (nr cr : Nat) (ao : Option Addr) (co bs os : Nat) (v0 u0 v1 u1 v2 u2 : Value) (W : World) : Prop where
  p : BoxP bp 2 (.slice an nn cn) (.slice ar nr cr) twoP W
  l : PBsIs W (.slice ao 8 co) (compL twoP)
  s : Sum3 (some ⟨bs, os, none⟩) bs os v0 u0 v1 u1 v2 u2 W
  b : Below w.heap.size w W
theorem A4.on {w : World} {bp : Nat} {an : Option Addr} {nn cn : Nat} {ar : Option Addr} {nr cr : Nat} {ao : Option Addr} {co bs os : Nat} {v0 u0 v1 u1 v2 u2 : Value} {W W' : World} (h : A4 w bp an nn cn ar nr cr ao co bs os v0 u0 v1 u1 v2 u2 W) (hb : Below W.heap.size W W') : A4 w bp an nn cn ar nr cr ao co bs os v0 u0 v1 u1 v2 u2 W' :=
  ⟨h.p.on hb, h.l.below hb, h.s.on hb, bon h.b hb⟩
theorem A4.alloc {w : World} {bp : Nat} {an : Option Addr} {nn cn : Nat} {ar : Option Addr} {nr cr : Nat} {ao : Option Addr} {co bs os : Nat} {v0 u0 v1 u1 v2 u2 : Value} {W : World} (h : A4 w bp an nn cn ar nr cr ao co bs os v0 u0 v1 u1 v2 u2 W) (o : Obj) : A4 w bp an nn cn ar nr cr ao co bs os v0 u0 v1 u1 v2 u2 (W.alloc o) :=
  h.on (bal (Below.refl _ _) _)
end Go.Proofs.YtgakoainjgjimaaGreatDoor
