/-
  Layer 2, the checksum. Conditions: bytes, at most 10^12 of them.
-/
import Derived.Test.YtaielcokfpodaaaWireA
namespace Go.Proofs.Ytaielcokfpodaaa
open Go.RowKit

def poly : Nat := 14514072000185962306
/-- One step of the checksum. -/
def stepN (x : Nat) : Nat := if x % 2 = 1 then (x / 2) ^^^ poly else x / 2
def steps8 (x : Nat) : Nat := stepN (stepN (stepN (stepN (stepN (stepN (stepN (stepN x)))))))
def moreN (x : Nat) (l : List Int) : Nat := l.foldl (fun a b => steps8 (a ^^^ b.toNat)) x
/-- A text's checksum. -/
def crcN (l : List Int) : Nat := 18446744073709551615 - moreN 18446744073709551615 l

theorem xor_lt {a b : Nat} (ha : a < 18446744073709551616) (hb : b < 18446744073709551616) : a ^^^ b < 18446744073709551616 := Nat.xor_lt_two_pow (n := 64) ha hb
theorem stepN_lt (x : Nat) (h : x < 18446744073709551616) : stepN x < 18446744073709551616 := by
  unfold stepN
  split
  · exact xor_lt (by omega) (by decide)
  · omega
theorem steps8_lt (x : Nat) (h : x < 18446744073709551616) : steps8 x < 18446744073709551616 :=
  stepN_lt _ (stepN_lt _ (stepN_lt _ (stepN_lt _ (stepN_lt _ (stepN_lt _ (stepN_lt _ (stepN_lt _ h)))))))

theorem step_bits (x : Nat) (h : x < 18446744073709551616) :
    bits .xor .u64 ((x : Int) / 2) (bits .and .u64 14514072000185962306 (IntKind.u64.wrap (-bits .and .u64 (x : Int) 1))) = (stepN x : Int) := by
  have h1 : bits .and .u64 (x : Int) 1 = ((x % 2 : Nat) : Int) := by
    have := bits_and_u64_nat x 1 h (by decide)
    rw [Nat.and_one_is_mod] at this
    exact this
  rw [h1]
  unfold stepN
  by_cases hp : x % 2 = 1
  · rw [hp, if_pos rfl]
    have e1 : IntKind.u64.wrap (-((1 : Nat) : Int)) = 18446744073709551615 := by decide
    have e2 : bits .and .u64 14514072000185962306 18446744073709551615 = 14514072000185962306 := by decide +kernel
    rw [e1, e2]
    exact bits_xor_u64_nat (x / 2) poly (by omega) (by decide)
  · have h0 : x % 2 = 0 := by omega
    rw [h0, if_neg (by decide)]
    have e1 : IntKind.u64.wrap (-((0 : Nat) : Int)) = 0 := by decide
    have e2 : bits .and .u64 14514072000185962306 0 = 0 := by decide +kernel
    rw [e1, e2]
    have := bits_xor_u64_nat (x / 2) 0 (by omega) (by decide)
    rw [Nat.xor_zero] at this
    exact this

theorem cstep_any (x : Nat) (w : World) (h : x < 18446744073709551616) :
    Calls Try.prog 105 #[.int .u64 (x : Int)] w fun e w' => e = .returned (.int .u64 (stepN x : Int)) ∧ w = w' := by
  have HS := Lib.hid (step_bits x h)
  go_enter Try.func105, Try.ntmps105
  go_wp2_with fail
  go_ret
  exact ⟨ret_int HS.out, rfl⟩

theorem moreN_lt (l : List Int) (hb : Byt l) : ∀ x, x < 18446744073709551616 → moreN x l < 18446744073709551616 := by
  induction l with
  | nil => intro x h; exact h
  | cons b l ih =>
    intro x h
    have := hb b (by simp)
    exact ih (fun y hy => hb y (by simp [hy])) _ (steps8_lt _ (xor_lt h (by omega)))
theorem moreN_snoc (x : Nat) (l : List Int) (b : Int) : moreN x (l ++ [b]) = steps8 (moreN x l ^^^ b.toNat) := by simp [moreN]

/-- k steps. -/
def stepsK : Nat → Nat → Nat
  | 0, x => x
  | k + 1, x => stepN (stepsK k x)
theorem stepsK_lt : ∀ k x, x < 18446744073709551616 → stepsK k x < 18446744073709551616
  | 0, _, h => h
  | k + 1, x, h => stepN_lt _ (stepsK_lt k x h)

theorem not_nat (x : Nat) (h : x < 18446744073709551616) : 18446744073709551615 ^^^ x = 18446744073709551615 - x := by
  have e : (BitVec.allOnes 64 ^^^ BitVec.ofNat 64 x).toNat = (~~~ (BitVec.ofNat 64 x)).toNat := by rw [BitVec.allOnes_xor]
  rw [BitVec.toNat_xor, BitVec.toNat_not, BitVec.toNat_allOnes, BitVec.toNat_ofNat, Nat.mod_eq_of_lt (by omega)] at e
  simpa using e
theorem not_bits (x : Nat) (h : x < 18446744073709551616) : bits .xor .u64 IntKind.u64.max (x : Int) = ((18446744073709551615 - x : Nat) : Int) := by
  have := bits_xor_u64_nat 18446744073709551615 x (by decide) h
  rw [not_nat x h] at this
  have e : IntKind.u64.max = ((18446744073709551615 : Nat) : Int) := by decide
  rw [e]
  exact this

set_option maxRecDepth 100000 in
set_option maxHeartbeats 4000000 in
theorem cmore_any (l : List Int) (hb : Byt l) (hl : l.length ≤ 1000000000000) (sum : Nat) (hs : sum < 18446744073709551616) (w : World) :
    Calls Try.prog 104 #[.int .u64 (sum : Int), .string (strOfNums l)] w fun e w' => e = .returned (.int .u64 ((18446744073709551615 - moreN (18446744073709551615 - sum) l : Nat) : Int)) ∧ w = w' := by
  have hz : (strOfNums l).size = l.length := strOfNums_size l
  have HST := Lib.hid cstep_any
  have hn := not_bits sum hs
  obtain ⟨x0, hx0⟩ : ∃ x0, x0 = 18446744073709551615 - sum := ⟨_, rfl⟩
  have hx1 : x0 < 18446744073709551616 := by omega
  rw [← hx0] at hn ⊢
  have HML := Lib.hid (fun k => moreN_lt (l.take k) (hb.take k) x0 hx1)
  obtain ⟨res, hres⟩ : ∃ res : Nat, res = 18446744073709551615 - moreN x0 l := ⟨_, rfl⟩
  rw [← hres]
  have HRES := Lib.hid hres
  clear hx0 hres
  go_enter Try.func104, Try.ntmps104
  go_wp2_with fail
  clear hn
  go_loop [5, 11] (fun x i => ∃ k : Nat, k ≤ l.length ∧ i = .int .i64 k ∧ x = .int .u64 (moreN x0 (l.take k) : Int)) (fun _ i => l.length - (intOf i).toNat)
  case atStart => exact ⟨0, Nat.zero_le _, rfl, by simp [moreN]⟩
  case round =>
    obtain ⟨k, hk, rfl, rfl⟩ := hrel
    have hm := HML.out k
    by_cases hlt : k < l.length
    · have hat : ∀ h : k < (strOfNums l).size, (((strOfNums l)[k]'h).toNat : Int) = l[k] := fun h => strOf_at l hb k h hlt
      have hx := hb l[k] (List.getElem_mem hlt)
      have hsn : Hid (moreN x0 (l.take (k + 1)) = steps8 (moreN x0 (l.take k) ^^^ l[k].toNat)) := by
        show _ = _
        rw [List.take_succ_eq_append_getElem hlt, moreN_snoc]
      have hlt' : (k : Int) < (l.length : Int) := by omega
      generalize moreN x0 (l.take k) = y at *
      generalize l[k] = b at *
      obtain ⟨c, rfl⟩ : ∃ c : Nat, b = (c : Int) := ⟨b.toNat, by omega⟩
      rw [Int.toNat_natCast] at hsn
      have hxb := bits_xor_u64_nat y c hm (by omega)
      have hyc : y ^^^ c < 18446744073709551616 := xor_lt hm (by omega)
      generalize y ^^^ c = z at *
      go_wp2_with fail
      clear hxb
      go_loop [5, 20] (fun x i => ∃ q : Nat, q ≤ 8 ∧ i = .int .i64 q ∧ x = .int .u64 (stepsK q z : Int)) (fun _ i => 8 - (intOf i).toNat)
      case atStart => exact ⟨0, Nat.zero_le _, rfl, rfl⟩
      case round =>
        obtain ⟨q, hq, rfl, rfl⟩ := hrel
        have hK := stepsK_lt q z hyc
        by_cases hq8 : q < 8
        · have HC := Lib.hid (fun wx => HST.out (stepsK q z) wx hK)
          have hks : Hid (stepN (stepsK q z) = stepsK (q + 1) z) := rfl
          generalize stepsK q z = y2 at *
          go_wp2_with fail
          refine (HC.out _).mono ?_
          rintro e w' ⟨rfl, rfl⟩
          go_wp2_with fail
          go_round
          case rel => exact ⟨q + 1, by omega, by go_num, by rw [hks.out]⟩
          case measure => simp [intOf]; omega
        · obtain rfl : q = 8 := by omega
          have hks : Hid (stepsK 8 z = steps8 z) := rfl
          go_wp2_with fail
          go_round
          case rel => exact ⟨k + 1, by omega, by go_num, by rw [hsn.out, ← hks.out]⟩
          case measure => simp [intOf]; omega
    · obtain rfl : k = l.length := by omega
      have hm2 := HML.out l.length
      rw [List.take_of_length_le (Nat.le_refl _)] at *
      have hn2 := not_bits (moreN x0 l) hm2
      have hr := HRES.out
      rw [← hr] at hn2
      clear hr
      generalize moreN x0 l = y at *
      go_wp2_with fail
      go_ret
      exact ⟨rfl, rfl⟩

theorem csum_any (l : List Int) (hb : Byt l) (hl : l.length ≤ 1000000000000) (w : World) :
    Calls Try.prog 97 #[.string (strOfNums l)] w fun e w' => e = .returned (.int .u64 (crcN l : Int)) ∧ w = w' := by
  have hc := cmore_any l hb hl 0 (by decide) w
  have HC : Hid (Calls Try.prog 104 #[.int .u64 0, .string (strOfNums l)] w fun e w' => e = .returned (.int .u64 (crcN l : Int)) ∧ w = w') := hc
  clear hc
  generalize crcN l = r at *
  go_enter Try.func97, Try.ntmps97
  go_wp2_with fail
  refine HC.out.mono ?_
  rintro e w' ⟨rfl, rfl⟩
  go_wp2_with fail
  go_ret
  exact ⟨rfl, rfl⟩
end Go.Proofs.Ytaielcokfpodaaa
