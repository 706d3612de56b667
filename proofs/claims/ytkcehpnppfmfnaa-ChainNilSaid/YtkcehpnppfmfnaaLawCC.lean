/-
  ChainNil: the walk of the statement's own text. Conditions: none.
-/
import Derived.Test.YtkcehpnppfmfnaaLawCA
namespace Go.Proofs.Ytkcehpnppfmfnaa
open Go.RowKit

theorem wf_u64 {n : Int} (h : (Lit.int .u64 n).wf = true) : 0 ≤ n ∧ n ≤ 18446744073709551615 := by
  simp [Lit.wf, IntKind.min, IntKind.max, IntKind.signed, IntKind.bits] at h; omega

set_option maxRecDepth 100000 in
set_option maxHeartbeats 4000000 in
theorem chainNil_walk (s a b : Int) (_h0 : (Lit.int .u8 s).wf = true) (h1 : (Lit.int .u64 a).wf = true) (_h2 : (Lit.int .u64 b).wf = true) (w : World) :
    Calls Try.prog 5 #[.int .u8 s, .int .u64 a, .int .u64 b] w fun e w' => e = .returned (.bool true) ∧ Below w.heap.size w w' := by
  obtain ⟨a0, a1⟩ := wf_u64 h1
  clear h1
  go_enter Try.func5, Try.ntmps5
  go_wp2_with fail
  refine (at_nil a w a0 a1).mono ?_
  rintro e w' ⟨rfl, rfl⟩
  go_wp2_with fail
  refine (push_nil s w).mono ?_
  rintro e w' ⟨rfl, rfl⟩
  go_wp2_with fail
  refine (rel_nil a w).mono ?_
  rintro e w' ⟨rfl, rfl⟩
  go_wp2_with fail
  refine (low_nil w).mono ?_
  rintro e w' ⟨rfl, rfl⟩
  go_wp2_with fail
  refine (top_nil w).mono ?_
  rintro e w' ⟨rfl, rfl⟩
  go_wp2_with fail
  refine (span_nil a b w).mono ?_
  rintro e w1 ⟨rfl, hu1⟩
  have HU1 := Lib.hid hu1
  clear hu1
  go_wp2_with fail
  refine (tail_nil w1).mono ?_
  rintro e w' ⟨rfl, rfl⟩
  go_wp2_with fail
  refine (copy_nil w1).mono ?_
  rintro e w' ⟨rfl, rfl⟩
  go_wp2_with fail
  refine (wakes_true w1).mono ?_
  rintro e w2 ⟨rfl, hu2⟩
  go_wp2_with fail
  go_ret
  exact ⟨rfl, (HU1.out.trans hu2 (fun _ _ h => h)).below⟩
end Go.Proofs.Ytkcehpnppfmfnaa
