/- My texts Shelf, Bld, PbS, Awk0, DelR, merged. -/
import Derived.Shelf.Sort.Plain
import Derived.Shelf.Slices.CompactI
import Derived.Shelf.Slices.In.SortNone
import Derived.Shelf.Strconv.Itoa3
import Derived.Shelf.Strings.BuilderK
import Derived.Test.YtfhikjmddclmgaaGreatDoorProg
import Derived.Test.YtfhikjmddclmgaaGreatDoorM00
import Derived.Deep.DeepCutAuto
import Derived.WalkKit
import Derived.Test.YtfhikjmddclmgaaGreatDoorM13
import Derived.Test.YtfhikjmddclmgaaGreatDoorM06
import Derived.Test.YtfhikjmddclmgaaGreatDoorM07

/- Library contracts at this program (printed by the kit's lay-shelf and lay-plain; wip/shelf.py). -/
namespace Go.Proofs.YtfhikjmddclmgaaGreatDoor
open Go.Shelf
def Tryz.lays169_ren : Go.Shelf.Ren := ⟨fun | 169 => 65 | n => n, fun | 70 => 96 | 9 => 9 | 0 => 0 | 72 => 99 | 37 => 97 | 127 => 123 | 3 => 3 | 5 => 5 | n => n, fun | n => n⟩
theorem Tryz.lays169 : Go.Proofs.Lays.n169 Tryz.prog Tryz.lays169_ren := {
  mixed := by kernel_rfl
  f169 := Tryz.func65.trans (congrArg some (by kernel_rfl))
  t0 := Tryz.underlying0
  a0 := Tryz.isAgg0
  z0 := Tryz.sizeOf0
  v0 := Tryz.zeroValue0
  t3 := Tryz.underlying3
  a3 := Tryz.isAgg3
  z3 := Tryz.sizeOf3
  v3 := Tryz.zeroValue3
  t9 := Tryz.underlying9
  a9 := Tryz.isAgg9
  z9 := Tryz.sizeOf9
  v9 := Tryz.zeroValue9
  t37 := Tryz.underlying97
  a37 := Tryz.isAgg97
  z37 := Tryz.sizeOf97
  v37 := Tryz.zeroValue97
  t70 := Tryz.underlying96
  a70 := Tryz.isAgg96
  z70 := Tryz.sizeOf96
  v70 := Tryz.zeroValue96
  t72 := Tryz.underlying99
  a72 := Tryz.isAgg99
  z72 := Tryz.sizeOf99
  v72 := Tryz.zeroValue99
  t127 := Tryz.underlying123
  a127 := Tryz.isAgg123
  z127 := Tryz.sizeOf123
  v127 := Tryz.zeroValue123 }
theorem Tryz.Builder_Extra_169 : Builder.Extra Tryz.prog Tryz.lays169_ren := {
  sizeBuilder := by kernel_rfl
  liesBuilder := by kernel_rfl
  t5 := Tryz.underlying5
  a5 := Tryz.isAgg5
  z5 := Tryz.sizeOf5
  v5 := Tryz.zeroValue5
  infoByte := by kernel_rfl
  cellsByte := by kernel_rfl
  sizeByte := by kernel_rfl
  neB5 := by decide }
open Go.RowKit in
theorem Tryz.Builder_String_any_k (B b : Nat) (l : List UInt8) (w : World) (h : Lib.IsBuilderF 99 5 B b (Lib.byteCells l) w) (hBw : B ≤ w.heap.size) :
    Calls Tryz.prog 65 #[.pointer (some ⟨b, 0, none⟩)] w fun e w' => e = .returned (.string ⟨l.toArray⟩) ∧ (Lib.IsBuilderF 99 5 B b (Lib.byteCells l) w' ∧ Below B w w' ∧ Lib.OthersKept 5 (some b) w w') := Any.Builder_String_any_k Tryz.lays169 Tryz.Builder_Extra_169 B b l w h hBw
def Tryz.lays171_ren : Go.Shelf.Ren := ⟨fun | 171 => 64 | 243 => 103 | 246 => 126 | 283 => 142 | 284 => 143 | 285 => 144 | 286 => 145 | 129 => 141 | 317 => 155 | 318 => 156 | 319 => 157 | 320 => 158 | 337 => 162 | 338 => 163 | n => n, fun | 3 => 3 | 9 => 9 | 2 => 2 | 4 => 4 | 171 => 151 | 0 => 0 | 53 => 150 | 37 => 97 | 5 => 5 | 173 => 153 | 212 => 163 | 51 => 148 | 20 => 20 | 213 => 164 | 46 => 48 | 232 => 170 | 233 => 171 | n => n, fun | 17 => 1 | 18 => 2 | 19 => 3 | n => n⟩
theorem Tryz.lays171 : Go.Proofs.Lays.n171 Tryz.prog Tryz.lays171_ren := {
  mixed := by kernel_rfl
  f129 := Tryz.func141.trans (congrArg some (by kernel_rfl))
  f171 := Tryz.func64.trans (congrArg some (by kernel_rfl))
  f243 := Tryz.func103.trans (congrArg some (by kernel_rfl))
  f246 := Tryz.func126.trans (congrArg some (by kernel_rfl))
  f283 := Tryz.func142.trans (congrArg some (by kernel_rfl))
  f284 := Tryz.func143.trans (congrArg some (by kernel_rfl))
  f285 := Tryz.func144.trans (congrArg some (by kernel_rfl))
  f286 := Tryz.func145.trans (congrArg some (by kernel_rfl))
  f317 := Tryz.func155.trans (congrArg some (by kernel_rfl))
  f318 := Tryz.func156.trans (congrArg some (by kernel_rfl))
  f319 := Tryz.func157.trans (congrArg some (by kernel_rfl))
  f320 := Tryz.func158.trans (congrArg some (by kernel_rfl))
  f337 := Tryz.func162.trans (congrArg some (by kernel_rfl))
  f338 := Tryz.func163.trans (congrArg some (by kernel_rfl))
  t0 := Tryz.underlying0
  a0 := Tryz.isAgg0
  z0 := Tryz.sizeOf0
  v0 := Tryz.zeroValue0
  t2 := Tryz.underlying2
  a2 := Tryz.isAgg2
  z2 := Tryz.sizeOf2
  v2 := Tryz.zeroValue2
  t3 := Tryz.underlying3
  a3 := Tryz.isAgg3
  z3 := Tryz.sizeOf3
  v3 := Tryz.zeroValue3
  t4 := Tryz.underlying4
  a4 := Tryz.isAgg4
  z4 := Tryz.sizeOf4
  v4 := Tryz.zeroValue4
  t5 := Tryz.underlying5
  a5 := Tryz.isAgg5
  z5 := Tryz.sizeOf5
  v5 := Tryz.zeroValue5
  t9 := Tryz.underlying9
  a9 := Tryz.isAgg9
  z9 := Tryz.sizeOf9
  v9 := Tryz.zeroValue9
  t20 := Tryz.underlying20
  a20 := Tryz.isAgg20
  z20 := Tryz.sizeOf20
  v20 := Tryz.zeroValue20
  t37 := Tryz.underlying97
  a37 := Tryz.isAgg97
  z37 := Tryz.sizeOf97
  v37 := Tryz.zeroValue97
  t46 := Tryz.underlying48
  a46 := Tryz.isAgg48
  z46 := Tryz.sizeOf48
  v46 := Tryz.zeroValue48
  t51 := Tryz.underlying148
  a51 := Tryz.isAgg148
  z51 := Tryz.sizeOf148
  v51 := Tryz.zeroValue148
  t53 := Tryz.underlying150
  a53 := Tryz.isAgg150
  z53 := Tryz.sizeOf150
  v53 := Tryz.zeroValue150
  t171 := Tryz.underlying151
  a171 := Tryz.isAgg151
  z171 := Tryz.sizeOf151
  v171 := Tryz.zeroValue151
  t173 := Tryz.underlying153
  a173 := Tryz.isAgg153
  z173 := Tryz.sizeOf153
  v173 := Tryz.zeroValue153
  t212 := Tryz.underlying163
  a212 := Tryz.isAgg163
  z212 := Tryz.sizeOf163
  v212 := Tryz.zeroValue163
  t213 := Tryz.underlying164
  a213 := Tryz.isAgg164
  z213 := Tryz.sizeOf164
  t232 := Tryz.underlying170
  a232 := Tryz.isAgg170
  z232 := Tryz.sizeOf170
  v232 := Tryz.zeroValue170
  t233 := Tryz.underlying171
  a233 := Tryz.isAgg171
  z233 := Tryz.sizeOf171
  v233 := Tryz.zeroValue171
  g17 := by kernel_rfl
  g18 := by kernel_rfl
  g19 := by kernel_rfl }
open Go.RowKit Go.Sort Go.Lib in
theorem Tryz.strconv_Itoa_small (i : Nat) (hi : i < 100) (w : World) :
    Calls Tryz.prog 64 #[.int .i64 i] w fun e w' => e = .returned (.string ⟨(Lib.decDigits i).toArray⟩) ∧ w' = w := Any.strconv_Itoa_small Tryz.lays171 i hi w
def Tryz.lays189_ren : Go.Shelf.Ren := ⟨fun | 189 => 100 | 125 => 124 | 257 => 123 | 128 => 140 | 129 => 141 | 294 => 131 | 295 => 132 | 296 => 133 | 297 => 134 | 298 => 135 | 299 => 136 | 216 => 137 | 300 => 138 | 301 => 139 | 328 => 150 | 329 => 151 | 330 => 152 | 331 => 153 | 332 => 154 | 215 => 130 | 343 => 161 | n => n, fun | 28 => 23 | 3 => 3 | 46 => 48 | 0 => 0 | 51 => 148 | 53 => 150 | 4 => 4 | 183 => 141 | 182 => 140 | 131 => 145 | 5 => 5 | 9 => 9 | 218 => 156 | 222 => 160 | 228 => 167 | 229 => 168 | n => n, fun | n => n⟩
theorem Tryz.lays189 : Go.Proofs.Lays.n189 Tryz.prog Tryz.lays189_ren := {
  mixed := by kernel_rfl
  f125 := Tryz.func124.trans (congrArg some (by kernel_rfl))
  f128 := Tryz.func140.trans (congrArg some (by kernel_rfl))
  f129 := Tryz.func141.trans (congrArg some (by kernel_rfl))
  f189 := Tryz.func100.trans (congrArg some (by kernel_rfl))
  f215 := Tryz.func130.trans (congrArg some (by kernel_rfl))
  f216 := Tryz.func137.trans (congrArg some (by kernel_rfl))
  f257 := Tryz.func123.trans (congrArg some (by kernel_rfl))
  f294 := Tryz.func131.trans (congrArg some (by kernel_rfl))
  f295 := Tryz.func132.trans (congrArg some (by kernel_rfl))
  f296 := Tryz.func133.trans (congrArg some (by kernel_rfl))
  f297 := Tryz.func134.trans (congrArg some (by kernel_rfl))
  f298 := Tryz.func135.trans (congrArg some (by kernel_rfl))
  f299 := Tryz.func136.trans (congrArg some (by kernel_rfl))
  f300 := Tryz.func138.trans (congrArg some (by kernel_rfl))
  f301 := Tryz.func139.trans (congrArg some (by kernel_rfl))
  f328 := Tryz.func150.trans (congrArg some (by kernel_rfl))
  f329 := Tryz.func151.trans (congrArg some (by kernel_rfl))
  f330 := Tryz.func152.trans (congrArg some (by kernel_rfl))
  f331 := Tryz.func153.trans (congrArg some (by kernel_rfl))
  f332 := Tryz.func154.trans (congrArg some (by kernel_rfl))
  f343 := Tryz.func161.trans (congrArg some (by kernel_rfl))
  t0 := Tryz.underlying0
  a0 := Tryz.isAgg0
  z0 := Tryz.sizeOf0
  v0 := Tryz.zeroValue0
  t3 := Tryz.underlying3
  a3 := Tryz.isAgg3
  z3 := Tryz.sizeOf3
  v3 := Tryz.zeroValue3
  t4 := Tryz.underlying4
  a4 := Tryz.isAgg4
  z4 := Tryz.sizeOf4
  v4 := Tryz.zeroValue4
  t5 := Tryz.underlying5
  a5 := Tryz.isAgg5
  z5 := Tryz.sizeOf5
  v5 := Tryz.zeroValue5
  t9 := Tryz.underlying9
  a9 := Tryz.isAgg9
  z9 := Tryz.sizeOf9
  v9 := Tryz.zeroValue9
  t28 := Tryz.underlying23
  a28 := Tryz.isAgg23
  z28 := Tryz.sizeOf23
  v28 := Tryz.zeroValue23
  t46 := Tryz.underlying48
  a46 := Tryz.isAgg48
  z46 := Tryz.sizeOf48
  v46 := Tryz.zeroValue48
  t51 := Tryz.underlying148
  a51 := Tryz.isAgg148
  z51 := Tryz.sizeOf148
  v51 := Tryz.zeroValue148
  t53 := Tryz.underlying150
  a53 := Tryz.isAgg150
  z53 := Tryz.sizeOf150
  v53 := Tryz.zeroValue150
  t131 := Tryz.underlying145
  a131 := Tryz.isAgg145
  z131 := Tryz.sizeOf145
  v131 := Tryz.zeroValue145
  t182 := Tryz.underlying140
  a182 := Tryz.isAgg140
  z182 := Tryz.sizeOf140
  v182 := Tryz.zeroValue140
  t183 := Tryz.underlying141
  a183 := Tryz.isAgg141
  z183 := Tryz.sizeOf141
  v183 := Tryz.zeroValue141
  t218 := Tryz.underlying156
  a218 := Tryz.isAgg156
  z218 := Tryz.sizeOf156
  v218 := Tryz.zeroValue156
  t222 := Tryz.underlying160
  a222 := Tryz.isAgg160
  z222 := Tryz.sizeOf160
  v222 := Tryz.zeroValue160
  t228 := Tryz.underlying167
  a228 := Tryz.isAgg167
  z228 := Tryz.sizeOf167
  v228 := Tryz.zeroValue167
  t229 := Tryz.underlying168
  a229 := Tryz.isAgg168
  z229 := Tryz.sizeOf168
  v229 := Tryz.zeroValue168 }
open Go.Sort Go.RowKit in
theorem Tryz.slices_Sort_int (blk off cap : Nat) (zs : List Int) (w : World) (hH : Holds (Value.int .i64) w blk off zs.toArray) (hblk : blk < w.heap.size) (hsz : zs.length < 4611686018427387904) :
    Calls Tryz.prog 100 #[.slice (some ⟨blk, off, none⟩) zs.length cap] w fun e w' =>
      e = .returned (.tuple #[]) ∧ ∃ n os, w' = grow (putRow (Value.int .i64) (Sort.ahead w n) blk off (zs.mergeSort fun x y => decide (x ≤ y)).toArray) os := Any.slices_Sort_int Tryz.lays189 blk off cap zs w hH hblk hsz
def Tryz.laysNm220_ren : Go.Shelf.Ren := ⟨fun | 20 => 54 | n => n, fun | 22 => 23 | 3 => 3 | 4 => 4 | 0 => 0 | n => n, fun | n => n⟩
theorem Tryz.laysNm220 : Go.Proofs.Lays2.n20 Tryz.prog Tryz.laysNm220_ren := {
  mixed := by kernel_rfl
  f20 := Tryz.func54.trans (congrArg some (by kernel_rfl))
  t0 := Tryz.underlying0
  a0 := Tryz.isAgg0
  z0 := Tryz.sizeOf0
  v0 := Tryz.zeroValue0
  t3 := Tryz.underlying3
  a3 := Tryz.isAgg3
  z3 := Tryz.sizeOf3
  v3 := Tryz.zeroValue3
  t4 := Tryz.underlying4
  a4 := Tryz.isAgg4
  z4 := Tryz.sizeOf4
  v4 := Tryz.zeroValue4
  t22 := Tryz.underlying23
  a22 := Tryz.isAgg23
  z22 := Tryz.sizeOf23
  v22 := Tryz.zeroValue23
  i3 := by kernel_rfl }
open Go.RowKit Go.Lib Go.Sort in
theorem Tryz.slices_Compact_int (blk off cap : Nat) (zs : List Int) (w : World) (hH : Holds (Value.int .i64) w blk off zs.toArray) (hsz : zs.length ≤ 9223372036854775807) (hcap : zs.length ≤ cap) :
    Calls Tryz.prog 54 #[.slice (some ⟨blk, off, none⟩) zs.length cap] w fun e w' => e = .returned (.slice (some ⟨blk, off, none⟩) (Lib.compact zs).length cap) ∧ ∃ q, w' = putRow (Value.int .i64) (Sort.ahead w q) blk off (Lib.compact zs ++ List.replicate (zs.length - (Lib.compact zs).length) 0).toArray := Any.slices_Compact_int Tryz.laysNm220 blk off cap zs w hH hsz hcap
open Go.RowKit Go.Lib Go.Sort in
theorem Tryz.slices_Compact_int_empty (a : Option Addr) (cap : Nat) (w : World) :
    Calls Tryz.prog 54 #[.slice a 0 cap] w fun e w' => e = .returned (.slice a 0 cap) ∧ w' = w := Any.slices_Compact_int_empty Tryz.laysNm220 a cap w
open Go.RowKit Go.Sort in
theorem Tryz.slices_Sort_int_none (p : Option Addr) (cap : Nat) (w : World) :
    Calls Tryz.prog 100 #[.slice p 0 cap] w fun e w' => e = .returned (.tuple #[]) ∧ w' = w := Any.slices_Sort_int_none Tryz.lays189 p cap w
end Go.Proofs.YtfhikjmddclmgaaGreatDoor

/- strings.Builder: copyCheck, WriteString (a builder of the call's own). -/
namespace Go.Proofs.YtfhikjmddclmgaaGreatDoor
open Go.RowKit

abbrev BAt (B b : Nat) (p : Value) (bs : List Value) (w : World) : Prop := Lib.BuilderAtF 99 5 B b p bs w
abbrev IsB (B b : Nat) (bs : List Value) (w : World) : Prop := Lib.IsBuilderF 99 5 B b bs w

theorem infoB : (Tryz.prog.info? 5).map (fun i => (i.zero, i.size, i.bytes)) = some (some (.int .u8 0), 1, 1) := by kernel_rfl
theorem sizeB : (Tryz.prog.info? 99).map (·.size) = some 2 := by kernel_rfl

set_option maxHeartbeats 1000000 in
set_option maxRecDepth 100000 in
theorem cc_fresh (b : Nat) (w : World) (h0 : w.cell? ⟨b, 0, none⟩ = some (.pointer none)) (hsh : w.shape? b = some (99, 2)) (hfz : w.frozen? ⟨b, 0, none⟩ = false) :
    Calls Tryz.prog 102 #[.pointer (some ⟨b, 0, none⟩)] w fun e w' => e = .returned (.tuple #[]) ∧ w' = w.setCell ⟨b, 0, none⟩ (.pointer (some ⟨b, 0, none⟩)) := by
  obtain ⟨j, hj, hjs⟩ := Option.map_eq_some_iff.1 sizeB
  go_enter Tryz.func102, Tryz.ntmps102
  go_wp2
  rw [Lib.run_to_unsafe w ⟨b, 0, none⟩ Tryz.underlying96 Tryz.underlying135 hj (by rw [hjs]; decide) hsh (Nat.zero_lt_succ 1)]
  simp only [Result.andThen]
  rw [Oper.upon_value]
  go_wp2
  rw [run_callFunc_extern Tryz.func125 (by kernel_rfl) (by kernel_rfl) (by kernel_rfl) (e := Extern.AbiNoEscape.same) (by kernel_rfl)]
  rw [Lib.run_noEscape]
  simp only [Result.andThen]
  rw [Oper.upon_value]
  go_wp2
  rw [Lib.run_from_unsafe w ⟨b, 0, none⟩ Tryz.underlying135 Tryz.underlying96 hj hsh Tryz.Builder_Extra_169.toX72.liesBuilder]
  simp only [Result.andThen]
  rw [Oper.upon_value]
  go_wp2
  go_end0
  exact ⟨rfl, rfl⟩

set_option maxHeartbeats 1000000 in
set_option maxRecDepth 100000 in
theorem cc_used (b : Nat) (w : World) (h0 : w.cell? ⟨b, 0, none⟩ = some (.pointer (some ⟨b, 0, none⟩))) :
    Calls Tryz.prog 102 #[.pointer (some ⟨b, 0, none⟩)] w fun e w' => e = .returned (.tuple #[]) ∧ w' = w := by
  obtain ⟨j, hj, _⟩ := Option.map_eq_some_iff.1 sizeB
  go_enter Tryz.func102, Tryz.ntmps102
  go_wp2
  rw [Lib.run_neq_ptr_same w _ Tryz.underlying96 hj]
  go_wp2
  go_end0
  exact ⟨rfl, rfl⟩

theorem cc_any (B b : Nat) (bs : List Value) (w : World) (h : IsB B b bs w) :
    Calls Tryz.prog 102 #[.pointer (some ⟨b, 0, none⟩)] w fun e w' => e = .returned (.tuple #[]) ∧ (BAt B b (.pointer (some ⟨b, 0, none⟩)) bs w' ∧ Below B w w' ∧ Lib.OthersKept 5 (some b) w w') := by
  rcases h with h | h
  · refine (cc_fresh b w h.cell0 h.shape h.frozen0).mono ?_
    rintro e w' ⟨rfl, rfl⟩
    exact ⟨rfl, h.used _, (Below.refl B w).setCell (p := ⟨b, 0, none⟩) h.1 _, (Lib.OthersKept.refl _ _ w).setCell ⟨b, 0, none⟩ rfl _⟩
  · refine (cc_used b w h.cell0).mono ?_
    rintro e w' ⟨rfl, rfl⟩
    exact ⟨rfl, h, Below.refl B _, Lib.OthersKept.refl _ _ _⟩

set_option maxHeartbeats 2000000 in
set_option maxRecDepth 100000 in
theorem ws_any (B b : Nat) (bs : List Value) (s : ByteArray) (w : World) (h : IsB B b bs w) (hlen : bs.length + s.size ≤ 140737488355328) (hBw : B ≤ w.heap.size) :
    Calls Tryz.prog 63 #[.pointer (some ⟨b, 0, none⟩), .string s] w fun e w' => e = .returned (.tuple #[.int .i64 s.size, .nilIface]) ∧ (BAt B b (.pointer (some ⟨b, 0, none⟩)) (bs ++ Lib.strCells s) w' ∧ Below B w w' ∧ Lib.OthersKept 5 (some b) w w') := by
  obtain ⟨i0, hi, hz0, hz1, hz2⟩ := info_parts infoB
  go_enter Tryz.func63, Tryz.ntmps63
  go_wp2_with (go_at_call 102; refine (cc_any B b bs _ h).mono ?_)
  rintro e w1 ⟨rfl, h1, hb1, hk1⟩
  obtain ⟨hB, v, hbk, hown, hne⟩ := h1
  have c0 : w1.cell? ⟨b, 0, none⟩ = some (.pointer (some ⟨b, 0, none⟩)) := by rw [Lib.cell_of_heap hbk]; rfl
  have c1 : w1.cell? ⟨b, 1, none⟩ = some v := by rw [Lib.cell_of_heap hbk]; rfl
  go_wp2_with (at_builtin; refine Lib.wpList_append_own_stringF _ rfl _ _ 97 9 rfl B 5 i0 Tryz.underlying97 Tryz.underlying9 hi hz0 hz1 hz2 _ _ _ rfl hown s rfl ?c3 ?c4 ?c5 ?_)
  case c3 => unfold maxLen; omega
  case c4 => omega
  case c5 => have := hb1.size; omega
  intro v' w2 hown' hgrow _
  have hlt : b < w1.heap.size := (Array.getElem?_eq_some_iff.1 hbk).1
  have hb2 : w2.heap[b]? = some (.cells #[.pointer (some ⟨b, 0, none⟩), v] 99 (0, 0)) := by
    rw [hgrow.block b hlt (fun e => hne e.symm)]
    exact hbk
  have d0 : w2.cell? ⟨b, 0, none⟩ = some (.pointer (some ⟨b, 0, none⟩)) := by rw [Lib.cell_of_heap hb2]; rfl
  have d1 : w2.cell? ⟨b, 1, none⟩ = some v := by rw [Lib.cell_of_heap hb2]; rfl
  have f1 : w2.frozen? ⟨b, 1, none⟩ = false := Lib.frozen_of_heap hb2 1
  obtain ⟨ao, n', cap, rfl⟩ : ∃ ao n' cap, v' = .slice ao n' cap := by
    rcases hown'.2 with ⟨hv, _⟩ | ⟨g, cap, cur, fz, hv, _⟩
    · exact ⟨_, _, _, hv⟩
    · exact ⟨_, _, _, hv⟩
  go_wp2
  go_ret2
  refine ⟨rfl, ?_, ?_, (hk1.grown hgrow (Lib.ownsRowF_kind hown)).setCell ⟨b, 1, none⟩ rfl _⟩
  · exact Lib.BuilderAtF.put (T := 99) (e := 5) hB hb2 (bs' := bs ++ Lib.strCells s) (by simpa [Lib.strCells_length] using hown') (by decide)
  · exact (hb1.grown hgrow (by have := hb1.size; omega) (fun k hk => (hown.lt k hk).1)).setCell (p := ⟨b, 1, none⟩) hB _

end Go.Proofs.YtfhikjmddclmgaaGreatDoor

/- pb.String, at small numbers. -/
namespace Go.Proofs.YtfhikjmddclmgaaGreatDoor
open Go.RowKit Go.Shelf
attribute [local go_sem] Oper.semAt_some

/-- The text of a literal with its coefficient. -/
def itemT (q : Int × Int) : List UInt8 := (Lib.decDigits q.2.toNat ++ [32]) ++ ((if q.1 < 0 then [126] else []) ++ (([120] ++ Lib.decDigits q.1.natAbs) ++ [32]))
def headT (l : List (Int × Int)) : List UInt8 := l.flatMap itemT
def strT (c : PBC) : List UInt8 := headT (c.lits.zip c.coefs) ++ ([62, 61, 32] ++ Lib.decDigits c.bound.toNat)
theorem headT_snoc (l : List (Int × Int)) (q : Int × Int) : headT (l ++ [q]) = headT l ++ itemT q := by simp [headT]

theorem dec_len {n : Nat} (h : n < 100) : (Lib.decDigits n).length ≤ 2 := by
  unfold Lib.decDigits
  split
  · simp
  · have : n / 10 < 10 := by omega
    unfold Lib.decDigits
    rw [dif_pos this]
    simp

theorem itemT_len {q : Int × Int} (h1 : q.1.natAbs < 100) (h2 : 0 ≤ q.2 ∧ q.2 < 100) : (itemT q).length ≤ 8 := by
  have a := dec_len (n := q.2.toNat) (by omega)
  have b := dec_len h1
  unfold itemT
  simp only [List.length_append, List.length_singleton, List.length_cons, List.length_nil]
  split <;> simp <;> omega

theorem headT_len : ∀ {l : List (Int × Int)}, (∀ q ∈ l, q.1.natAbs < 100 ∧ 0 ≤ q.2 ∧ q.2 < 100) → (headT l).length ≤ 8 * l.length
  | [], _ => by simp [headT]
  | q :: l, h => by
    have a := itemT_len (h q (.head _)).1 (h q (.head _)).2
    have b := headT_len (l := l) (fun x hx => h x (.tail _ hx))
    unfold headT at *
    simp only [List.flatMap_cons, List.length_append, List.length_cons]
    omega

/-- The cells of a text. -/
abbrev bc (l : List UInt8) : List Value := Lib.byteCells l
theorem bc_app (a b : List UInt8) : bc (a ++ b) = bc a ++ bc b := by simp [bc, Lib.byteCells]
theorem bc_str (s : ByteArray) : Lib.strCells s = bc s.data.toList := rfl

theorem parts_any2 (vl vk : Value) (bd : Int) (w : World) (hl : ∃ a n c, vl = .slice a n c) (hk : ∃ a n c, vk = .slice a n c) :
    Calls Tryz.prog 51 #[.agg #[vl, vk, .int .i64 bd]] w fun e w' => e = .returned (.func (.func 98) #[] #[.pointer (some ⟨w.heap.size, 0, none⟩)]) ∧ Below w.heap.size w w' ∧ Blk w' w.heap.size [vl, vk, .int .i64 bd] 30 ∧ w'.heap.size = w.heap.size + 1 := by
  obtain ⟨a1, n1, c1, rfl⟩ := hl
  obtain ⟨a2, n2, c2, rfl⟩ := hk
  have HB : Hid (Below w.heap.size w (w.alloc (.cells #[.slice a1 n1 c1, .slice a2 n2 c2, .int .i64 bd] 30))) := Lib.hid (bal (Below.refl _ _) _)
  have HK := Lib.hid (Blk.new w [.slice a1 n1 c1, .slice a2 n2 c2, .int .i64 bd] 30)
  go_enter Tryz.func51, Tryz.ntmps51
  go_wp2
  go_ret
  exact ⟨rfl, HB.out, HK.out, by simp⟩

/-- The builder in block b under way; cb: the iterator's box; n1: the size at the loop's start. -/
structure StSt (b0 b cb n1 : Nat) (pc : List Value) (w : World) (t : List UInt8) (W : World) : Prop where
  bld : IsB b b (bc t) W
  box : Blk W cb pc 30
  box1 : Blk W b0 pc 30
  below : Below b w W
  size : n1 ≤ W.heap.size

theorem IsB.own {b : Nat} {bs : List Value} {X Y : World} {row : Option Nat} (h : IsB b b bs X) (hg : X.grownBy Y row) (hr : ∀ r, row = some r → ∃ o : Obj, X.heap[r]? = some o ∧ o.isCells = false) : IsB b b bs Y := by
  have key : ∀ p, BAt b b p bs X → BAt b b p bs Y := fun p ⟨h1, v, h2, h3, h4⟩ => by
    have hne : ∀ k (o : Obj), X.heap[k]? = some o → o.isCells = true → row ≠ some k := fun k o hk hc e => by
      obtain ⟨o2, ho, hc2⟩ := hr k e
      rw [hk] at ho
      cases ho
      rw [hc] at hc2
      cases hc2
    refine ⟨h1, v, (hg.block b (Array.getElem?_eq_some_iff.1 h2).1 (fun e => hne b _ h2 rfl e.symm)).trans h2, h3.kept hg ?_, h4⟩
    rcases h3.2 with ⟨rfl, _⟩ | ⟨g, cap, cur, fz, rfl, _, hgg, _⟩
    · exact .inl rfl
    · exact .inr (fun e => hne g _ hgg rfl e.symm)
  exact h.elim (fun x => .inl (key _ x)) (fun x => .inr (key _ x))

theorem StSt.own {b0 b cb n1 B : Nat} {pc : List Value} {w : World} (hB : b ≤ B) {c : PBC} : OwnFrom B (fun (pre : List (PV c)) W => StSt b0 b cb n1 pc w (headT (pvs pre)) W) := fun pre X Y row hs hg hrow => by
  have hr : ∀ r, row = some r → ∃ o : Obj, X.heap[r]? = some o ∧ o.isCells = false := fun r e => (hrow r e).2
  refine ⟨hs.bld.own hg hr, blk_ownP _ _ _ () X Y row hs.box hg hr, blk_ownP _ _ _ () X Y row hs.box1 hg hr, ?_, Nat.le_trans hs.size hg.size⟩
  exact hs.below.trans ⟨hg.os, hg.tape, hg.output, hg.size, fun i hi => hg.block i (by have := hs.bld; rcases this with h | h <;> (have := h.lt; omega)) (fun e => by have := (hrow i e.symm).1; omega)⟩

/-- Behind a writing. -/
theorem StSt.write {b0 b cb : Nat} {pc : List Value} {w W W' : World} {t s : List UInt8} (h : StSt b0 b cb (b + 2) pc w t W) (hcb : cb = b + 1) (hb : b0 < b) (h1 : BAt b b (.pointer (some ⟨b, 0, none⟩)) (bc t ++ bc s) W') (h2 : Below b W W') (h3 : Lib.OthersKept 5 (some b) W W') :
    StSt b0 b cb (b + 2) pc w (t ++ s) W' ∧ Lim (b + 2) [b] W W' ∧ KeepsOthers W W' := by
  have kk : ∀ k c t', Blk W k c t' → k ≠ b → t' ≠ 5 → Blk W' k c t' := fun k c t' hk hne ht => h3 k _ hk (fun e => hne (Option.some.inj e)) (fun c fz e => ht (by cases e; rfl))
  refine ⟨⟨.inr (by rw [bc_app]; exact h1), kk _ _ _ h.box (by omega) (by decide), kk _ _ _ h.box1 (by omega) (by decide), h.below.trans h2, Nat.le_trans h.size h2.size⟩, ⟨h2.os, h2.tape, h2.output, h2.size, fun k hk hs => ?_⟩, ⟨h2.size, fun k o hk hc => h3 k o hk ?_ (fun c fz e => by subst e; cases hc)⟩⟩
  · simp only [List.mem_cons, List.not_mem_nil, or_false] at hs
    rcases Nat.lt_or_ge k b with hlt | hge
    · exact h2.block k hlt
    · obtain rfl : k = cb := by omega
      rw [show W'.heap[k]? = _ from kk _ _ _ h.box hs (by decide), show W.heap[k]? = _ from h.box]
  · intro e
    have := Option.some.inj e
    subst this
    rcases h.bld with ⟨_, v, hb2, _⟩ | ⟨_, v, hb2, _⟩ <;> (rw [hb2] at hk; cases hk; cases hc)

theorem cat_list (a b : List UInt8) : ((⟨a.toArray⟩ : ByteArray) ++ ⟨b.toArray⟩).data.toList = a ++ b := by
  rw [ByteArray.data_append]
  simp

theorem cat3_list (a b c : List UInt8) : (((⟨a.toArray⟩ : ByteArray) ++ ⟨b.toArray⟩) ++ ⟨c.toArray⟩).data.toList = (a ++ b) ++ c := by
  rw [ByteArray.data_append, ByteArray.data_append]
  simp

theorem ws_txt {b0 b cb : Nat} {pc : List Value} {w W : World} {t : List UInt8} (h : StSt b0 b cb (b + 2) pc w t W) (hcb : cb = b + 1) (hb : b0 < b) (s : List UInt8) (S : ByteArray) (hS : S.data.toList = s) (hlen : t.length + s.length ≤ 1000000) :
    Calls Tryz.prog 63 #[.pointer (some ⟨b, 0, none⟩), .string S] W fun e W' => e = .returned (.tuple #[.int .i64 S.size, .nilIface]) ∧ StSt b0 b cb (b + 2) pc w (t ++ s) W' ∧ Lim (b + 2) [b] W W' ∧ KeepsOthers W W' := by
  have hsz : S.size = s.length := by rw [← hS, Array.length_toList]; rfl
  refine (ws_any b b (bc t) S W h.bld (by rw [Lib.byteCells_length, hsz]; omega) (by have := h.size; omega)).mono ?_
  rintro e W' ⟨rfl, h1, h2, h3⟩
  rw [bc_str, hS] at h1
  exact ⟨rfl, h.write hcb hb h1 h2 h3⟩

end Go.Proofs.YtfhikjmddclmgaaGreatDoor

/- ostlerlaw27.awake: the values. -/
namespace Go.Proofs.YtfhikjmddclmgaaGreatDoor
open Go.RowKit

def aw : List Int := [1, 1, -1, 1, 1, -1, 1]
def cA : PBC := ⟨[-1, 6], [1, 1], 1⟩
def cB : PBC := ⟨[-2, 6], [1, 1], 1⟩
def cC : PBC := ⟨[-1, -2], [1, 1], 1⟩

theorem aw_make1 : makeP loopP aw [1, 2] 1 = (cA, 0) := by kernel_rfl
theorem aw_make2 : makeP loopP aw [1, 2] 2 = (cB, 0) := by kernel_rfl
theorem aw_make3 : makeP disP [0, 1] [1] 1 = (cC, 0) := by kernel_rfl
theorem aw_unf1 : unfB loopP aw [1, 2] = true := by kernel_rfl
theorem aw_unf2 : unfB disP [0, 1] [1] = true := by kernel_rfl
theorem aw_val1 : validC loopP [1, 2] (clauseP [-1, 3]).1 = true := by kernel_rfl
theorem aw_val2 : validC loopP [1, 2] (clauseP [-1]).1 = false := by kernel_rfl
theorem aw_pv1 : pbV cA = true := by kernel_rfl
theorem aw_pv2 : pbV cB = true := by kernel_rfl
theorem aw_pv3 : pbV cC = true := by kernel_rfl

theorem dec1 : Lib.decDigits 1 = [49] := by unfold Lib.decDigits; rfl
theorem dec2 : Lib.decDigits 2 = [50] := by unfold Lib.decDigits; rfl
theorem dec6 : Lib.decDigits 6 = [54] := by unfold Lib.decDigits; rfl
theorem aw_str1 : strT cA = [49, 32, 126, 120, 49, 32, 49, 32, 120, 54, 32, 62, 61, 32, 49] := by simp [strT, headT, itemT, cA, dec1, dec2, dec6]
theorem aw_str2 : strT cB = [49, 32, 126, 120, 50, 32, 49, 32, 120, 54, 32, 62, 61, 32, 49] := by simp [strT, headT, itemT, cB, dec1, dec2, dec6]
theorem aw_str3 : strT cC = [49, 32, 126, 120, 49, 32, 49, 32, 126, 120, 50, 32, 62, 61, 32, 49] := by simp [strT, headT, itemT, cC, dec1, dec2, dec6]

end Go.Proofs.YtfhikjmddclmgaaGreatDoor

/- slices.DeleteFunc with the closure of support.reasons (printed by delr.py). -/
namespace Go.Proofs.YtfhikjmddclmgaaGreatDoor
open Go.RowKit

set_option maxHeartbeats 1000000 in
theorem idx_rs (v : Value) (l : List Int) (w : World) (h : Ints w v l) (g : Nat → Bool) (k1 k2 : Value)
    (hg : ∀ w', Below w.heap.size w w' → ∀ j, j < l.length → Calls Tryz.prog 76 #[.int .i64 (ix l j), k1, k2] w' fun e w'' => e = .returned (.bool (g j)) ∧ Below w'.heap.size w' w'') :
    Calls Tryz.prog 72 #[v, .func (.func 76) #[] #[k1, k2]] w fun e w' => ∃ r, e = .returned (.int .i64 r) ∧ IxP l.length g r ∧ Below w.heap.size w w' := by
  obtain ⟨a1, c1, rfl, -, hl1, -, hcell⟩ := h.form
  have HG := Lib.hid hg
  clear h hg
  go_enter Tryz.func72, Tryz.ntmps72
  go_wp2
  go_loopw [8] (fun i wx => IxR l.length g w i wx) (fun i _ => l.length - (intOf i).toNat)
  case atStart => exact ⟨0, by omega, rfl, fun j hj => absurd hj (Nat.not_lt_zero _), Below.refl _ _⟩
  case round =>
    obtain ⟨k, hk, rfl, hall, hb⟩ := hrel
    have HA := Lib.hid hall
    clear hall
    by_cases hlt : k < l.length
    · obtain ⟨b, off, rfl, hbl, hc⟩ := hcell (by omega)
      have hk1 := (bcell hb _ _ hbl).trans (hc k hlt)
      clear hc hcell
      cases g1 : g k with
      | true =>
        have HK : Hid (_ = true) := Lib.hid g1
        have HC := Lib.hid (HG.out _ hb k hlt)
        rw [g1] at HC
        clear g1
        go_wp2_with (go_at_call 76; refine (HC.out).mono ?_; rintro e w1 ⟨rfl, hb1⟩)
        go_ret
        exact ⟨_, rfl, .inr ⟨k, hlt, rfl, HK.out, HA.out⟩, bon hb hb1⟩
      | false =>
        have HN := Lib.hid (lt_succ_all HA.out g1)
        have HC := Lib.hid (HG.out _ hb k hlt)
        rw [g1] at HC
        clear g1
        go_wp2_with (go_at_call 76; refine (HC.out).mono ?_; rintro e w1 ⟨rfl, hb1⟩)
        first
          | (go_roundw
             case rel => (exact ⟨k + 1, by omega, by go_num, HN.out, bon hb hb1⟩)
             case measure => (simp [intOf]; omega))
          | (refine ⟨?_, ?_⟩
             · (exact ⟨k + 1, by omega, by go_num, HN.out, bon hb hb1⟩)
             · (simp [intOf]; omega))
    · have HN : Hid (∀ j, j < l.length → g j = false) := Lib.hid (fun j hj => HA.out j (by omega))
      go_wp2
      go_ret
      exact ⟨_, rfl, .inl ⟨rfl, HN.out⟩, hb⟩

set_option maxHeartbeats 4000000 in
set_option maxRecDepth 100000 in
theorem delf_rs (l : List Int) (g c base : Nat) (D : List Value) (w : World) (hb : Blk w g D 3) (hcell : ∀ k, k < l.length → D[k]? = some (.int .i64 (ix l k))) (hfit : Fits l) (hn : l.length ≤ c ∧ c ≤ D.length ∧ c ≤ maxLen) (hbase : base ≤ g) (hl8 : l.length * 8 ≤ 140737488351232)
    (q : Int → Bool) (k1 k2 : Value) (hq : ∀ w', Lim w.heap.size [g] w w' → ∀ j, j < l.length → Calls Tryz.prog 76 #[.int .i64 (ix l j), k1, k2] w' fun e w'' => e = .returned (.bool (q (ix l j))) ∧ Below w'.heap.size w' w'') :
    Calls Tryz.prog 75 #[.slice (some ⟨g, 0, none⟩) l.length c, .func (.func 76) #[] #[k1, k2]] w fun e w' => ∃ a n c', e = .returned (.slice a n c') ∧ QRow base w' (.slice a n c') (keepF q l l.length) ∧ Lim w.heap.size [g] w w' := by
  have hint : Ints w (.slice (some ⟨g, 0, none⟩) l.length c) l := ⟨⟨_, _, rfl, hn.1, hn.2.2, hl8, fun _ => ⟨g, 0, rfl, hb.lt, fun i hi => by rw [Nat.zero_add, hb.cell]; exact hcell i hi⟩⟩, hfit⟩
  have HI := Lib.hid (idx_rs _ l w hint (fun j => q (ix l j)) k1 k2 (fun w' hb' j hj => hq w' (.of_below hb' (Nat.le_refl _)) j hj))
  have HQ := Lib.hid hq
  have HB := Lib.hid hb
  have HC := Lib.hid hcell
  have HFT := Lib.hid hfit
  have hglt := hb.lt
  clear hint hq hb hcell hfit
  go_enter Tryz.func75, Tryz.ntmps75
  go_upto_region 2 with (go_at_call 72; (with_reducible refine (HI.out).mono ?_); rintro e w1 ⟨r, rfl, hr, hb1⟩; have HR := Lib.hid hr; have HB1 := Lib.hid hb1; clear hr hb1)
  rcases HR.out with ⟨rfl, hnone⟩ | ⟨i0, hi0, rfl, hq0, hbef⟩
  · have HK : Hid (keepF q l l.length = l) := Lib.hid (by rw [keepF_none _ (Nat.le_refl _) hnone, List.take_length])
    clear hnone
    go_wp2_with fail
    go_ret
    refine ⟨_, _, _, rfl, ⟨by rw [HK.out]; exact HFT.out, .inr ⟨g, 0, c, D.toArray, by rw [HK.out], hbase, HB.out.below HB1.out, by rw [HK.out]; exact hn.1, hn.2.2, by simp; exact hn.2.1, fun i hi => by rw [HK.out] at hi ⊢; rw [Nat.zero_add, List.getElem?_toArray]; exact HC.out i hi⟩⟩, .of_below HB1.out (Nat.le_refl _)⟩
  · have hk0 : keepF q l i0 = l.take i0 := keepF_none i0 (by omega) hbef
    have hk1 : keepF q l (i0 + 1) = l.take i0 := by rw [keepF_succ hi0, if_pos (show q (ix l i0) = true from hq0)]; exact hk0
    have hst : DelSt w g q l D.length (i0 + 1) w1 := ⟨D, rfl, HB.out.below HB1.out, fun k hk => by
      rw [hk1] at hk ⊢
      simp only [List.length_take] at hk
      rw [HC.out k (by omega)]
      congr 2
      simp [ix, show k < i0 by omega], fun k _ hk => HC.out k hk, .of_below HB1.out (Nat.le_refl _)⟩
    have HST := Lib.hid hst
    have HLE : Hid ((keepF q l (i0 + 1)).length = i0) := Lib.hid (by rw [hk1, List.length_take]; omega)
    clear hst hk0 hk1 hq0 hbef HR HI
    have hi0m : ((i0 : Int) == -1) = false := by simp
    have hlen63 : l.length ≤ 1000000000000000 := by omega
    go_upto_region 5 with fail
    go_loopw [5, 6] (fun i j wx => DelRel w g q l D.length i j wx) (fun _ j _ => l.length - (intOf j).toNat)
    case atStart => exact ⟨i0 + 1, by omega, by go_num, by rw [HLE.out], by rw [HLE.out]; omega, HST.out⟩
    case round =>
      obtain ⟨jj, hjj, rfl, rfl, hlt0, hst⟩ := hrel
      have HS := Lib.hid hst
      obtain ⟨D1, hd1, hd2, hd3, hd4, hd5⟩ := hst
      have hN : l.length ≤ D.length := by omega
      by_cases hltj : jj < l.length
      · have kv := (hd2.cell jj).trans (hd4 jj (Nat.le_refl _) hltj)
        have hil : (keepF q l jj).length < D1.length := by omega
        have HCL := Lib.hid (HQ.out wr hd5 jj hltj)
        have HD2 := Lib.hid hd2
        have HSUC := Lib.hid (keepF_succ (q := q) hltj)
        clear hd2 hd3 hd4 hd5
        cases hqv : q (ix l jj) with
        | true =>
          rw [hqv] at HCL HSUC
          have HSU2 : Hid (keepF q l (jj + 1) = keepF q l jj) := Lib.hid (by rw [HSUC.out]; rfl)
          go_wp2_with (go_at_call 76; (with_reducible refine (HCL.out).mono ?_); rintro e w2 ⟨rfl, hb2⟩; have HNX := Lib.hid ((HS.out.on hb2).drop hltj hqv); clear hb2)
          first
            | (go_roundw
               case rel => (exact ⟨jj + 1, by omega, by go_num, by rw [HSU2.out], by rw [HSU2.out]; omega, HNX.out⟩)
               case measure => (simp [intOf]; omega))
            | (refine ⟨?_, ?_⟩
               · (exact ⟨jj + 1, by omega, by go_num, by rw [HSU2.out], by rw [HSU2.out]; omega, HNX.out⟩)
               · (simp [intOf]; omega))
        | false =>
          rw [hqv] at HCL HSUC
          have HSU2 : Hid ((keepF q l (jj + 1)).length = (keepF q l jj).length + 1) := Lib.hid (by rw [HSUC.out]; simp)
          go_wp2_with (go_at_call 76; (with_reducible refine (HCL.out).mono ?_); rintro e w2 ⟨rfl, hb2⟩; have HNX := Lib.hid ((HS.out.on hb2).keep hltj hN hqv); have hd2' := HD2.out.below hb2; have ks : w2.cell? ⟨g, (keepF q l jj).length, none⟩ = some (D1[(keepF q l jj).length]) := (hd2'.cell _).trans (List.getElem?_eq_getElem hil); have fs := hd2'.free (keepF q l jj).length; clear hb2 hd2')
          first
            | (go_roundw
               case rel => (exact ⟨jj + 1, by omega, by go_num, by rw [HSU2.out]; go_num, by rw [HSU2.out]; omega, HNX.out⟩)
               case measure => (simp [intOf]; omega))
            | (refine ⟨?_, ?_⟩
               · (exact ⟨jj + 1, by omega, by go_num, by rw [HSU2.out]; go_num, by rw [HSU2.out]; omega, HNX.out⟩)
               · (simp [intOf]; omega))
      · obtain rfl : jj = l.length := by omega
        obtain ⟨fi, hfi⟩ : ∃ fi, fi = (keepF q l l.length).length := ⟨_, rfl⟩
        have HFI := Lib.hid hfi
        rw [← hfi] at hlt0 ⊢
        have hcl : ∀ ty c', (Builtin.clear_ #[23] ty #[.slice (some ⟨g, fi, none⟩) (l.length - fi) c']).run Tryz.prog wr = .ok (.tuple #[]) (wr.setCells g fi (List.replicate (l.length - fi) (.int .i64 0))) := fun ty c' =>
          Lib.run_clear_slice wr 23 3 ty (.int .i64 0) Tryz.underlying23 (fun w => Tryz.zeroValue3 w) rfl rfl g fi (l.length - fi) c' (by omega) (fun j hj => by rw [hd2.cell, List.getElem?_eq_getElem (by omega)]; rfl) (fun j hj => hd2.free _)
        clear hfi hd2 hd3 hd4 hd5
        go_wp2_with fail
        go_ret
        obtain ⟨D2, d1, d2, d3, -, d5⟩ := HS.out
        obtain ⟨D3, e1, e2, e3⟩ := blk_setCells (List.replicate (l.length - fi) (.int .i64 0)) fi D2 wr d2
        rw [← HFI.out] at d3
        refine ⟨_, _, _, rfl, ⟨fits_of (fun x hx => ?_), .inr ⟨g, 0, c, D3.toArray, by rw [← HFI.out], hbase, e1, by rw [← HFI.out]; omega, hn.2.2, by simp; omega, fun i hi => ?_⟩⟩, lim_setCells (by simp) _ _ _ d5⟩
        · have hm : x ∈ l := by
            unfold keepF at hx
            exact List.mem_of_mem_take (List.mem_filter.1 hx).1
          obtain ⟨k, hk, rfl⟩ := mem_ix.1 hm
          exact HFT.out k
        · rw [← HFI.out] at hi
          rw [Nat.zero_add, List.getElem?_toArray, e3 i hi]
          exact d3 i hi


set_option maxHeartbeats 1000000 in
theorem delf_nilR (k1 k2 : Value) (w : World) :
    Calls Tryz.prog 75 #[.slice none 0 0, .func (.func 76) #[] #[k1, k2]] w fun e w' => e = .returned (.slice none 0 0) ∧ Below w.heap.size w w' := by
  have hint : Ints w (.slice none 0 0) [] := nil_ints w
  have HI := Lib.hid (idx_rs _ [] w hint (fun _ => false) k1 k2 (fun w' hb' j hj => absurd hj (Nat.not_lt_zero _)))
  clear hint
  go_enter Tryz.func75, Tryz.ntmps75
  go_upto_region 2 with (go_at_call 72; (with_reducible refine (HI.out).mono ?_); rintro e w1 ⟨r, rfl, hr, hb1⟩; have HR := Lib.hid hr; have HB1 := Lib.hid hb1; clear hr hb1)
  rcases HR.out with ⟨rfl, -⟩ | ⟨i0, hi0, -⟩
  · go_wp2_with fail
    go_ret
    exact ⟨rfl, HB1.out⟩
  · exact absurd hi0 (Nat.not_lt_zero _)


theorem delf_rowR {base : Nat} {w : World} {v : Value} {l : List Int} (h : OwnI base w v l) (hbase : base ≤ w.heap.size) (q : Int → Bool) (k1 k2 : Value) (hq : ∀ w', Below base w w' → ∀ j, j < l.length → Calls Tryz.prog 76 #[.int .i64 (ix l j), k1, k2] w' fun e w'' => e = .returned (.bool (q (ix l j))) ∧ Below w'.heap.size w' w'') :
    Calls Tryz.prog 75 #[v, .func (.func 76) #[] #[k1, k2]] w fun e w' => ∃ a n c', e = .returned (.slice a n c') ∧ QRow base w' (.slice a n c') (keepF q l l.length) ∧ Below base w w' := by
  obtain ⟨⟨hrow, h8⟩, hfit⟩ := h
  rcases hrow.2 with ⟨rfl, h0⟩ | ⟨g, c, cur, rfl, hb, hg, hn, hm, hs, hx⟩
  · have : l = [] := List.eq_nil_of_length_eq_zero h0
    subst this
    refine (delf_nilR k1 k2 w).mono fun e w' ⟨he, hb⟩ => ⟨none, 0, 0, he, QRow.nil _ _, hb.mono hbase⟩
  · refine (delf_rs l g c base cur.toList w (by unfold Blk; simpa using hg) (fun k hk => ?_) hfit ⟨hn, by simp; omega, hm⟩ hb h8 q k1 k2 (fun w' hl x hx => hq w' ((hl.mono hbase (fun i hi _ => hi)).below (fun i hi => by simp only [List.mem_singleton] at hi; omega)) x hx)).mono fun e w' ⟨a, n, c', he, hr, hl⟩ => ⟨a, n, c', he, hr, (hl.mono hbase (fun i hi _ => hi)).below (fun i hi => by simp only [List.mem_singleton] at hi; omega)⟩
    have h4 : (cur.toList.take (l.length * 1))[k]? = some (.int .i64 (ix l k)) := by rw [hx]; simp [hk]
    rw [List.getElem?_take_of_lt (by omega)] at h4
    exact h4


end Go.Proofs.YtfhikjmddclmgaaGreatDoor
