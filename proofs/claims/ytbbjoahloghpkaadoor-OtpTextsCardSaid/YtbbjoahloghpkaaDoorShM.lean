/- The library's functions by the shelf's contracts, at this program. -/
import Derived.Shelf.Bits.Mul64
import Derived.Test.YtbbjoahloghpkaaDoorProg
namespace Go.Proofs.YtbbjoahloghpkaaDoor
open Go Go.RowKit Go.Lib Go.Proofs Go.Shelf
def shm_lays264_ren : Go.Shelf.Ren := ⟨fun | 264 => 74 | n => n, fun | 53 => 41 | 46 => 70 | n => n, fun | n => n⟩
theorem shm_lays264 : Go.Proofs.Lays.n264 Tryd.prog shm_lays264_ren := {
  mixed := by kernel_rfl
  f264 := Tryd.func74.trans (congrArg some (by kernel_rfl))
  t46 := Tryd.underlying70
  a46 := Tryd.isAgg70
  z46 := Tryd.sizeOf70
  v46 := Tryd.zeroValue70
  t53 := Tryd.underlying41
  a53 := Tryd.isAgg41
  z53 := Tryd.sizeOf41
  v53 := Tryd.zeroValue41 }
theorem shm_bits_Mul64 (x y : Nat) (hx : x < 18446744073709551616) (hy : y < 18446744073709551616) (w : World) :
    Calls Tryd.prog 74 #[.int .u64 x, .int .u64 y] w fun e w' => e = .returned (.tuple #[.int .u64 ((x * y / 18446744073709551616 : Nat) : Int), .int .u64 ((x * y % 18446744073709551616 : Nat) : Int)]) ∧ w' = w := Any.bits_Mul64 shm_lays264 x y hx hy w
end Go.Proofs.YtbbjoahloghpkaaDoor
