/-
  ProposeNil: the walk of the statement's own text. Conditions: none.
-/
import Derived.Test.YtbnmildjamjjmaaPropF
import Derived.Test.YtbnmildjamjjmaaStructM
namespace Go.Proofs.Ytbnmildjamjjmaa
open Go.RowKit Go.Maps

set_option maxRecDepth 100000 in
set_option maxHeartbeats 4000000 in
theorem proposeNil_walk (d s : Int) (v : ByteArray) (c n : Int) (w : World) (_h0 : (Lit.int .u8 d).wf = true) (_h1 : (Lit.int .u64 s).wf = true) (_h2 : v.size ≤ maxLen) (_h3 : (Lit.int .u8 c).wf = true) (_h4 : (Lit.int .u8 n).wf = true) :
    Calls Try.prog 4 #[.agg #[.int .u8 d, .int .u64 s, .string v, .int .u8 c, .int .u8 n]] w fun e w' => e = .returned (.bool true) ∧ Below w.heap.size w w' := by
  go_enter Try.func4, Try.ntmps4
  go_wp2_with fail
  refine (pclose_nil s _).mono ?_
  rintro e w1 ⟨rfl, rfl⟩
  go_wp2_with fail
  refine (pvoted_nil n s _).mono ?_
  rintro e w2 ⟨rfl, hu⟩
  have hB := (Blk.new w 32 #[.int .u8 d, .int .u64 s, .string v, .int .u8 c, .int .u8 n]).upd hu id
  have b1 : (w2.alloc (.cells #[.int .u64 0, .string ByteArray.empty] 41)).cell? ⟨w.heap.size, 1, none⟩ = some (.int .u64 s) := (hB.alloc _).cell 1
  have b2 : (w2.alloc (.cells #[.int .u64 0, .string ByteArray.empty] 41)).cell? ⟨w.heap.size, 2, none⟩ = some (.string v) := (hB.alloc _).cell 2
  have b3 : (w2.alloc (.cells #[.int .u64 0, .string ByteArray.empty] 41)).cell? ⟨w.heap.size, 3, none⟩ = some (.int .u8 c) := (hB.alloc _).cell 3
  have HU2 := Lib.hid (((Upd.refl (fun _ => False) w).alloc (.cells #[.int .u8 d, .int .u64 s, .string v, .int .u8 c, .int .u8 n] 32)).trans hu (fun _ _ h => h))
  clear hu hB
  go_wp2_with fail
  refine (popen_nil s v c _).mono ?_
  rintro e w3 ⟨rfl, rfl⟩
  go_wp2_with fail
  refine (pall_nil _).mono ?_
  rintro e w4 ⟨rfl, hu⟩
  have HU4 := Lib.hid ((HU2.out.alloc _).trans hu (fun _ _ h => h))
  clear hu
  go_wp2_with fail
  refine (plast_nil _).mono ?_
  rintro e w5 ⟨rfl, rfl⟩
  go_wp2_with fail
  refine (wakes20_true _).mono ?_
  rintro e w6 ⟨rfl, hu⟩
  have HU6 := Lib.hid (HU4.out.trans hu (fun _ _ h => h))
  clear hu
  go_wp2_with fail
  go_ret
  exact ⟨rfl, HU6.out.below⟩

end Go.Proofs.Ytbnmildjamjjmaa
