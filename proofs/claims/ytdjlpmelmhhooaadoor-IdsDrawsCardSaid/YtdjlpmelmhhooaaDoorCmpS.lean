/- The library's strings.Compare: the shelf's contract at this program. -/
import Derived.Shelf.Small.Strs
import Derived.Test.YtdjlpmelmhhooaaDoorProg
namespace Go.Proofs.YtdjlpmelmhhooaaDoor
open Go Go.RowKit Go.Proofs
def cmp_ren : Go.Shelf.Ren := ⟨fun | 106 => 20 | 213 => 34 | 265 => 45 | n => n, fun | 9 => 9 | 3 => 3 | n => n, fun | n => n⟩
theorem cmp_106 : Go.Proofs.Lays.n106 Tryd.prog cmp_ren := {
  mixed := by kernel_rfl
  f106 := Tryd.func20.trans (congrArg some (by kernel_rfl))
  f213 := Tryd.func34.trans (congrArg some (by kernel_rfl))
  f265 := Tryd.func45.trans (congrArg some (by kernel_rfl))
  t3 := Tryd.underlying3
  a3 := Tryd.isAgg3
  z3 := Tryd.sizeOf3
  v3 := Tryd.zeroValue3
  t9 := Tryd.underlying9
  a9 := Tryd.isAgg9
  z9 := Tryd.sizeOf9
  v9 := Tryd.zeroValue9 }
theorem compare_any (s t : ByteArray) (w : World) :
    Calls Tryd.prog 20 #[.string s, .string t] w fun e w' => e = .returned (.int .i64 (Lib.compareBytes s.data.toList t.data.toList)) ∧ w' = w := Any.strings_Compare cmp_106 s t w
end Go.Proofs.YtdjlpmelmhhooaaDoor
