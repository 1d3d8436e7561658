/- The library's functions by the shelf's contracts, at this program. -/
import Derived.Shelf.Strings.Prefix
import Derived.Test.YtbbjoahloghpkaaProg
namespace Go.Proofs.Ytbbjoahloghpkaa
open Go Go.RowKit Go.Lib Go.Proofs Go.Shelf
def shp_lays99_ren : Go.Shelf.Ren := ⟨fun | 99 => 19 | 206 => 35 | n => n, fun | 9 => 9 | 4 => 4 | 3 => 3 | n => n, fun | n => n⟩
theorem shp_lays99 : Go.Proofs.Lays.n99 Try.prog shp_lays99_ren := {
  mixed := by kernel_rfl
  f99 := Try.func19.trans (congrArg some (by kernel_rfl))
  f206 := Try.func35.trans (congrArg some (by kernel_rfl))
  t3 := Try.underlying3
  a3 := Try.isAgg3
  z3 := Try.sizeOf3
  v3 := Try.zeroValue3
  t4 := Try.underlying4
  a4 := Try.isAgg4
  z4 := Try.sizeOf4
  v4 := Try.zeroValue4
  t9 := Try.underlying9
  a9 := Try.isAgg9
  z9 := Try.sizeOf9
  v9 := Try.zeroValue9 }
theorem shp_strings_HasPrefix (s p : ByteArray) (w : World) :
    Calls Try.prog 19 #[.string s, .string p] w fun e w' => e = .returned (.bool (Lib.hasPrefix s.data.toList p.data.toList)) ∧ w' = w := Any.strings_HasPrefix shp_lays99 s p w
end Go.Proofs.Ytbbjoahloghpkaa
