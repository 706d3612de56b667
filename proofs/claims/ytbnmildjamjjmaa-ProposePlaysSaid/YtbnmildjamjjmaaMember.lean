/-
  Package member: what With, Both, Len, Need, Major, Has and Of (of one node) answer. Conditions: none.
-/
import Derived.Test.YtbnmildjamjjmaaRows
import Derived.Test.YtbnmildjamjjmaaBase
import Derived.Test.YtbnmildjamjjmaaBits
import Derived.Deep.QuietTactic
import Derived.BigQuiet
import Derived.IntWalk
import Derived.OpenShut
namespace Go.Proofs.Ytbnmildjamjjmaa
open Go.RowKit

def pop8 (n : Int) : Int := ((Lib.onesCount n.toNat : Nat) : Int)
theorem and127 : ∀ s : Fin 256, bits .and .u8 (s.val : Int) 127 = (s.val : Int) % 128 := by decide +kernel
theorem or0 : ∀ s : Fin 256, bits .or .u8 (s.val : Int) 0 = (s.val : Int) := by decide +kernel
theorem pop_fin : ∀ s : Fin 256, 0 ≤ pop8 (s.val : Int) ∧ pop8 (s.val : Int) ≤ 8 ∧ (0 < pop8 (s.val : Int) ↔ 0 < (s.val : Int)) := by decide +kernel
theorem fin_of {s : Int} (h0 : 0 ≤ s) (h1 : s ≤ 255) : ∃ t : Fin 256, s = (t.val : Int) := ⟨⟨s.toNat, by omega⟩, by simp; omega⟩
theorem and127_ {s : Int} (h0 : 0 ≤ s) (h1 : s ≤ 255) : bits .and .u8 s 127 = s % 128 := by obtain ⟨t, rfl⟩ := fin_of h0 h1; exact and127 t
theorem or0_ {s : Int} (h0 : 0 ≤ s) (h1 : s ≤ 255) : bits .or .u8 s 0 = s := by obtain ⟨t, rfl⟩ := fin_of h0 h1; exact or0 t
theorem pop_ {s : Int} (h0 : 0 ≤ s) (h1 : s ≤ 255) : 0 ≤ pop8 s ∧ pop8 s ≤ 8 ∧ (0 < pop8 s ↔ 0 < s) := by obtain ⟨t, rfl⟩ := fin_of h0 h1; exact pop_fin t

def setWith (m n : Int) : Int := bits .and .u8 (bits .or .u8 m n) 127
def setBoth (m n : Int) : Int := bits .and .u8 (bits .and .u8 m n) 127
def setLen (s : Int) : Int := pop8 (bits .and .u8 s 127)
def setMaj (s h : Int) : Bool := decide (setLen s / 2 + 1 ≤ setLen (setBoth s h))
def setOf1 (n : Int) : Int := if n < 7 then bits .or .u8 0 (2 ^ n.toNat % 256) else 0

theorem wf_u8_ {n : Int} (h0 : 0 ≤ n) (h1 : n ≤ 255) : (Lit.int .u8 n).wf = true := by
  simp [Lit.wf, IntKind.min, IntKind.max, IntKind.signed, IntKind.bits]; omega

theorem bits_bd_u8 (o : BinOp) (a b : Int) : 0 ≤ bits o .u8 a b ∧ bits o .u8 a b ≤ 255 := wf_u8 (wf_bits o .u8 a b)
theorem setLen_bd (s : Int) : 0 ≤ setLen s ∧ setLen s ≤ 8 := by
  have hb := bits_bd_u8 .and s 127
  have := pop_ hb.1 hb.2
  exact ⟨this.1, this.2.1⟩
theorem setWith_bd (m n : Int) : 0 ≤ setWith m n ∧ setWith m n ≤ 255 := bits_bd_u8 .and _ _
theorem setBoth_bd (m n : Int) : 0 ≤ setBoth m n ∧ setBoth m n ≤ 255 := bits_bd_u8 .and _ _

theorem ones8_any (n : Int) (w : World) (h0 : 0 ≤ n) (h1 : n ≤ 255) :
    Calls Try.prog 34 #[.int .u8 n] w fun e w' => e = .returned (.int .i64 (pop8 n)) ∧ w = w' :=
  (bits_OnesCount8 n w h0 h1).mono fun e w' ⟨he, hw⟩ => ⟨by rw [he, pop8], hw.symm⟩

theorem with_any (m n : Int) (w : World) :
    Calls Try.prog 19 #[.int .u8 m, .int .u8 n] w fun e w' => e = .returned (.int .u8 (setWith m n)) ∧ w = w' := by
  go_enter Try.func19, Try.ntmps19
  go_wp2
  go_ret
  exact ⟨rfl, rfl⟩

theorem both_any (m n : Int) (w : World) :
    Calls Try.prog 26 #[.int .u8 m, .int .u8 n] w fun e w' => e = .returned (.int .u8 (setBoth m n)) ∧ w = w' := by
  go_enter Try.func26, Try.ntmps26
  go_wp2
  go_ret
  exact ⟨rfl, rfl⟩

theorem len_any (s : Int) (w : World) :
    Calls Try.prog 20 #[.int .u8 s] w fun e w' => e = .returned (.int .i64 (setLen s)) ∧ w = w' := by
  have hb := bits_bd_u8 .and s 127
  go_enter Try.func20, Try.ntmps20
  go_wp2_with fail
  refine (ones8_any _ _ hb.1 hb.2).mono ?_
  rintro e w' ⟨rfl, rfl⟩
  go_wp2_with fail
  go_ret
  exact ⟨rfl, rfl⟩

theorem need_any (s : Int) (w : World) :
    Calls Try.prog 35 #[.int .u8 s] w fun e w' => e = .returned (.int .i64 (setLen s / 2 + 1)) ∧ w = w' := by
  obtain ⟨h0, h1⟩ := setLen_bd s
  go_enter Try.func35, Try.ntmps35
  go_wp2_with fail
  refine (len_any _ _).mono ?_
  rintro e w' ⟨rfl, rfl⟩
  go_wp2_with fail
  go_ret
  exact ⟨rfl, rfl⟩

theorem major_any (s h : Int) (w : World) :
    Calls Try.prog 22 #[.int .u8 s, .int .u8 h] w fun e w' => e = .returned (.bool (setMaj s h)) ∧ w = w' := by
  go_enter Try.func22, Try.ntmps22
  go_wp2_with fail
  refine (both_any _ _ _).mono ?_
  rintro e w' ⟨rfl, rfl⟩
  go_wp2_with fail
  refine (len_any _ _).mono ?_
  rintro e w' ⟨rfl, rfl⟩
  go_wp2_with fail
  refine (need_any _ _).mono ?_
  rintro e w' ⟨rfl, rfl⟩
  go_wp2_with fail
  go_ret
  exact ⟨rfl, rfl⟩

theorem of_one (g : Nat) (n : Int) (w : World) (t : TypeId) (h : Blk w g t #[.int .u8 n]) (h0 : 0 ≤ n) (h1 : n ≤ 255) :
    Calls Try.prog 21 #[.slice (some ⟨g, 0, none⟩) 1 1] w fun e w' => e = .returned (.int .u8 (setOf1 n)) ∧ w = w' := by
  have hc : w.cell? ⟨g, 0, none⟩ = some (.int .u8 n) := h.cell 0
  clear h
  by_cases h7 : n < 7
  · go_enter Try.func21, Try.ntmps21
    go_wp2
    refine wp_loop_rounds 2 ?_
    rw [rounds_succ]
    go_wp2
    rw [rounds_succ]
    go_wp2
    go_ret
    exact ⟨ret_int (by rw [setOf1, if_pos h7]), rfl⟩
  · go_enter Try.func21, Try.ntmps21
    go_wp2
    refine wp_loop_rounds 2 ?_
    rw [rounds_succ]
    go_wp2
    rw [rounds_succ]
    go_wp2
    go_ret
    exact ⟨ret_int (by rw [setOf1, if_neg (by omega)]), rfl⟩

end Go.Proofs.Ytbnmildjamjjmaa
