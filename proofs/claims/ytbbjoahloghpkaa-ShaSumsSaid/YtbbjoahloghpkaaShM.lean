/- The library's functions by the shelf's contracts, at this program. -/
import Derived.Shelf.Bits.Mul64
import Derived.Test.YtbbjoahloghpkaaProg
namespace Go.Proofs.Ytbbjoahloghpkaa
open Go Go.RowKit Go.Lib Go.Proofs Go.Shelf
def shm_lays264_ren : Go.Shelf.Ren := ⟨fun | 264 => 38 | n => n, fun | 53 => 71 | 46 => 48 | n => n, fun | n => n⟩
theorem shm_lays264 : Go.Proofs.Lays.n264 Try.prog shm_lays264_ren := {
  mixed := by kernel_rfl
  f264 := Try.func38.trans (congrArg some (by kernel_rfl))
  t46 := Try.underlying48
  a46 := Try.isAgg48
  z46 := Try.sizeOf48
  v46 := Try.zeroValue48
  t53 := Try.underlying71
  a53 := Try.isAgg71
  z53 := Try.sizeOf71
  v53 := Try.zeroValue71 }
theorem shm_bits_Mul64 (x y : Nat) (hx : x < 18446744073709551616) (hy : y < 18446744073709551616) (w : World) :
    Calls Try.prog 38 #[.int .u64 x, .int .u64 y] w fun e w' => e = .returned (.tuple #[.int .u64 ((x * y / 18446744073709551616 : Nat) : Int), .int .u64 ((x * y % 18446744073709551616 : Nat) : Int)]) ∧ w' = w := Any.bits_Mul64 shm_lays264 x y hx hy w
end Go.Proofs.Ytbbjoahloghpkaa
