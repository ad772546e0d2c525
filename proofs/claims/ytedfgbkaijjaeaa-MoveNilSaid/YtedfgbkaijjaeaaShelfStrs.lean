import Derived.Shelf.Small.Strs
import Derived.Test.YtedfgbkaijjaeaaProg
namespace Go.Proofs.Ytedfgbkaijjaeaa
open Go.Proofs Go.Shelf Go.RowKit Go.Lib
def sh_lays106_ren : Go.Shelf.Ren := ⟨fun | 106 => 45 | 213 => 74 | 265 => 101 | n => n, fun | 9 => 9 | 3 => 3 | n => n, fun | n => n⟩
theorem sh_lays106 : Go.Proofs.Lays.n106 Try.prog sh_lays106_ren := {
  mixed := by kernel_rfl
  f106 := Try.func45.trans (congrArg some (by kernel_rfl))
  f213 := Try.func74.trans (congrArg some (by kernel_rfl))
  f265 := Try.func101.trans (congrArg some (by kernel_rfl))
  t3 := Try.underlying3
  a3 := Try.isAgg3
  z3 := Try.sizeOf3
  v3 := Try.zeroValue3
  t9 := Try.underlying9
  a9 := Try.isAgg9
  z9 := Try.sizeOf9
  v9 := Try.zeroValue9 }
theorem sh_strings_Compare (a b : ByteArray) (w : World) :
    Calls Try.prog 45 #[.string a, .string b] w fun e w' => e = .returned (.int .i64 (Lib.compareBytes a.data.toList b.data.toList)) ∧ w' = w := Any.strings_Compare sh_lays106 a b w
end Go.Proofs.Ytedfgbkaijjaeaa
