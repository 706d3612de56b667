/-
  The library's contract of bits.Len64, laid at this seat's translation; how many digits a number has. Conditions: none.
-/
import Derived.Shelf.Strconv.Itoa0
import Derived.Test.YtaielcokfpodaaaRows
import Derived.Test.YtaielcokfpodaaaWireP
namespace Go.Proofs.Ytaielcokfpodaaa
open Go.Shelf
def lays129_ren : Go.Shelf.Ren := ⟨fun | 129 => 96 | n => n, fun | 3 => 3 | 4 => 4 | 5 => 5 | 9 => 9 | 46 => 101 | 53 => 22 | n => n, fun | n => n⟩
theorem lays129 : Go.Proofs.Lays.n129 Try.prog lays129_ren := {
  mixed := by kernel_rfl
  f129 := Try.func96.trans (congrArg some (by kernel_rfl))
  t3 := Try.underlying3
  a3 := Try.isAgg3
  z3 := Try.sizeOf3
  v3 := Try.zeroValue3
  t4 := Try.underlying4
  a4 := Try.isAgg4
  z4 := Try.sizeOf4
  v4 := Try.zeroValue4
  t5 := Try.underlying5
  a5 := Try.isAgg5
  z5 := Try.sizeOf5
  v5 := Try.zeroValue5
  t9 := Try.underlying9
  a9 := Try.isAgg9
  z9 := Try.sizeOf9
  v9 := Try.zeroValue9
  t46 := Try.underlying101
  a46 := Try.isAgg101
  z46 := Try.sizeOf101
  v46 := Try.zeroValue101
  t53 := Try.underlying22
  a53 := Try.isAgg22
  z53 := Try.sizeOf22
  v53 := Try.zeroValue22 }
theorem bits_Len64 (x : Int) (w : World) (h0 : 0 ≤ x) (h1 : x ≤ 18446744073709551615) :
    Calls Try.prog 96 #[.int .u64 x] w fun e w' => e = .returned (.int .i64 (Lib.bitLen x.toNat)) ∧ w' = w := Any.bits_Len64 lays129 x w h0 h1

theorem bitLen_small (n : Nat) (h0 : n ≠ 0) (h : n < 256) : 1 ≤ Lib.bitLen n ∧ Lib.bitLen n ≤ 8 := by
  have h8 := Lib.bitLen_le8 ⟨n, h⟩
  have h1 := Lib.bitLen_half n h0 (by omega)
  exact ⟨by omega, h8⟩
theorem nk_bitLen (n : Nat) (h0 : n ≠ 0) (h : n < 18446744073709551616) : (Lib.bitLen n + 7) / 8 = nk n := by
  unfold nk
  split
  · have := bitLen_small n h0 (by omega); omega
  split
  · have := Lib.bitLen_shift 8 n (by omega) (by omega); have := bitLen_small (n / 2 ^ 8) (by omega) (by omega); omega
  split
  · have := Lib.bitLen_shift 16 n (by omega) (by omega); have := bitLen_small (n / 2 ^ 16) (by omega) (by omega); omega
  split
  · have := Lib.bitLen_shift 24 n (by omega) (by omega); have := bitLen_small (n / 2 ^ 24) (by omega) (by omega); omega
  split
  · have := Lib.bitLen_shift 32 n (by omega) (by omega); have := bitLen_small (n / 2 ^ 32) (by omega) (by omega); omega
  split
  · have := Lib.bitLen_shift 40 n (by omega) (by omega); have := bitLen_small (n / 2 ^ 40) (by omega) (by omega); omega
  split
  · have := Lib.bitLen_shift 48 n (by omega) (by omega); have := bitLen_small (n / 2 ^ 48) (by omega) (by omega); omega
  · have := Lib.bitLen_shift 56 n (by omega) (by omega); have := bitLen_small (n / 2 ^ 56) (by omega) (by omega); omega
theorem len64_any (x : Int) (w : World) (h0 : 0 < x) (h1 : x ≤ 18446744073709551615) :
    Calls Try.prog 96 #[.int .u64 x] w fun e w' => (∃ m : Nat, e = .returned (.int .i64 (m : Int)) ∧ (m + 7) / 8 = nk x.toNat ∧ m ≤ 64) ∧ w = w' :=
  (bits_Len64 x w (by omega) h1).mono fun e w' ⟨he, hw⟩ => ⟨⟨_, he, nk_bitLen x.toNat (by omega) (by omega), by have := nk_bitLen x.toNat (by omega) (by omega); have := nk_bd x.toNat; omega⟩, hw.symm⟩
end Go.Proofs.Ytaielcokfpodaaa
