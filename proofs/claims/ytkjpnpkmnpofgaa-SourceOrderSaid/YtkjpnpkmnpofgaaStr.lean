/- Contracts of strings.Contains at one byte. -/
import Derived.Test.YtkjpnpkmnpofgaaBase
import Derived.Lib.Bytealg
namespace Go.Proofs.Ytkjpnpkmnpofgaa
open Go.RowKit

set_option maxRecDepth 100000 in
theorem indexByte_any (s : ByteArray) (c : Int) (w : World) :
    Calls Try.prog 134 #[.string s, .int .u8 c] w fun e w' => e = .returned (.int .i64 (Lib.indexByte s.data.toList c.toNat.toUInt8)) ∧ w = w' := by
  go_enter Try.func134, Try.ntmps134
  go_wp2
  rw [run_callFunc_extern Try.func138 (by kernel_rfl) (by kernel_rfl) (by kernel_rfl) (e := Extern.BytealgIndexByte.indexByte) (by kernel_rfl), Lib.run_indexByteString]
  simp only [Result.andThen]
  rw [Oper.upon_value]
  go_wp2
  go_ret
  exact ⟨rfl, rfl⟩

/-- A line break in a string: the place of the first, or -1. -/
def nlI (s : ByteArray) : Int := Lib.indexByte s.data.toList 10
def nlB (s : ByteArray) : Bool := decide (0 ≤ nlI s)

theorem indexNl_any (s : ByteArray) (w : World) :
    Calls Try.prog 122 #[.string s, .string ⟨#[10]⟩] w fun e w' => e = .returned (.int .i64 (nlI s)) ∧ w = w' := by
  go_enter Try.func122, Try.ntmps122
  go_wp2_with (go_at_call 134; refine (indexByte_any _ _ _).mono ?_; rintro e w' ⟨rfl, rfl⟩)
  · have h : ([10] == s.toList) = true := by assumption
    go_ret
    refine ⟨ret_int ?_, rfl⟩
    rw [nlI]
    have h2 : s.data.toList = [10] := by
      have h3 : [10] = s.toList := by simpa using h
      rw [h3]
      exact (Lib.toList_data s).symm
    rw [h2]; rfl
  · go_ret
    exact ⟨ret_int rfl, rfl⟩

theorem stringsIndexNl_any (s : ByteArray) (w : World) :
    Calls Try.prog 90 #[.string s, .string ⟨#[10]⟩] w fun e w' => e = .returned (.int .i64 (nlI s)) ∧ w = w' := by
  go_enter Try.func90, Try.ntmps90
  go_wp2_with (go_at_call 122; refine (indexNl_any _ _).mono ?_; rintro e w' ⟨rfl, rfl⟩)
  go_ret
  exact ⟨ret_int rfl, rfl⟩

theorem containsNl_any (s : ByteArray) (w : World) :
    Calls Try.prog 65 #[.string s, .string ⟨#[10]⟩] w fun e w' => e = .returned (.bool (nlB s)) ∧ w = w' := by
  go_enter Try.func65, Try.ntmps65
  go_wp2_with (go_at_call 90; refine (stringsIndexNl_any _ _).mono ?_; rintro e w' ⟨rfl, rfl⟩)
  go_ret
  exact ⟨ret_bool rfl, rfl⟩

end Go.Proofs.Ytkjpnpkmnpofgaa
