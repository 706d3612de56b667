/-
  The library's contract of bits.OnesCount8, laid at this seat's translation (the lines are the shelf's own tool's). Conditions: none.
-/
import Derived.Shelf.Small.Bits
import Derived.Test.YtbnmildjamjjmaaRows
namespace Go.Proofs.Ytbnmildjamjjmaa
open Go.Shelf
def lays135_ren : Go.Shelf.Ren := ⟨fun | 135 => 34 | n => n, fun | 5 => 5 | 3 => 3 | 9 => 9 | n => n, fun | n => n⟩
theorem lays135 : Go.Proofs.Lays.n135 Try.prog lays135_ren := {
  mixed := by kernel_rfl
  f135 := Try.func34.trans (congrArg some (by kernel_rfl))
  t3 := Try.underlying3
  a3 := Try.isAgg3
  z3 := Try.sizeOf3
  v3 := Try.zeroValue3
  t5 := Try.underlying5
  a5 := Try.isAgg5
  z5 := Try.sizeOf5
  v5 := Try.zeroValue5
  t9 := Try.underlying9
  a9 := Try.isAgg9
  z9 := Try.sizeOf9
  v9 := Try.zeroValue9 }
theorem bits_OnesCount8 (x : Int) (w : World) (h0 : 0 ≤ x) (h1 : x ≤ 255) :
    Calls Try.prog 34 #[.int .u8 x] w fun e w' => e = .returned (.int .i64 (Lib.onesCount x.toNat)) ∧ w' = w := Any.bits_OnesCount8 lays135 x w h0 h1
end Go.Proofs.Ytbnmildjamjjmaa
