/-
  Layer 18: a message that is known. Conditions: none.
-/
import Derived.Test.YtaielcokfpodaaaMsgM
import Derived.Test.YtaielcokfpodaaaMsgT
namespace Go.Proofs.Ytaielcokfpodaaa
open Go.RowKit

def m18 : Ms := ⟨4, 2, 1, 0, 5, 0, [], [], [], cm0, 0, []⟩
def l18 : List Int := [4, 252, 51, 133, 20, 112, 155, 31, 97, 4, 2, 1, 5]
theorem put18 : putM m18 = (l18, 0) := by decide +kernel
theorem wf18 : WfM m18 := ⟨by decide, by decide, by decide, by decide, by decide, by decide, ⟨Byt.nil, Nat.zero_le _⟩, ⟨Nat.zero_le _, fun _ h => by cases h⟩, ⟨Nat.zero_le _, fun _ h => by cases h⟩, wfC0, by decide, Byt.nil⟩
theorem txt18 : TxtM m18 := ⟨Nat.zero_le _, Nat.zero_le _, Nat.zero_le _, Nat.zero_le _⟩
theorem byt18 : Byt l18 := by
  intro x hx
  simp [l18] at hx
  omega
theorem take18 : takeM l18 = (m18, 0) := by
  have h := takeM_put wf18 (by decide +kernel) (by decide +kernel)
  have e : frameB (insM m18) = l18 := by decide +kernel
  rw [e] at h
  exact h
theorem may18 : mayE m18 = 0 := by decide +kernel
theorem may0 : mayE (ms0 0) = 2 := by decide +kernel
theorem lists_nil (w : World) (m : Ms) (h1 : m.votes = []) (h2 : m.items = []) : Lists w (fun _ => False) m (.slice none 0 0) (.slice none 0 0) := ⟨by rw [h1]; exact Sl.nil _ _ _, by rw [h2]; exact Sl.nil _ _ _⟩

set_option maxRecDepth 100000 in
set_option maxHeartbeats 8000000 in
theorem wakes18_true (w : World) : Calls Try.prog 9 #[] w fun e w' => e = .returned (.bool true) ∧ Upd (fun _ => False) w w' := by
  have HP : Hid (∀ wx : World, Calls Try.prog 7 #[.agg #[.int .u8 4, .int .u64 2, .int .u8 1, .int .u64 0, .int .u64 5, .int .u8 0, .string { data := #[] }, .slice none 0 0, .slice none 0 0, .int .u8 0, .int .u32 0, .int .u8 0, .string { data := #[] }, .string { data := #[] }, .string { data := #[] }, .int .u8 0, .int .u8 0, .string { data := #[] }]] wx fun e w' => e = .returned (.tuple #[.string (strOfNums l18), .int .i64 0]) ∧ Upd (fun _ => False) wx w') := fun wx => by
    have h := mput_any m18 wf18 txt18 (lists_nil wx m18 rfl rfl) ⟨Nat.zero_le _, Nat.zero_le _⟩
    rw [put18] at h
    exact h
  have HT : Hid (∀ wx : World, Calls Try.prog 8 #[.string (strOfNums l18)] wx (TakeR wx (m18, 0))) := fun wx => by
    have h := mtake_any l18 byt18 (by decide) wx
    rw [take18] at h
    exact h
  have HC : Hid (∀ wx : World, Calls Try.prog 12 #[.agg #[.int .u8 4, .int .u64 2, .int .u8 1, .int .u64 0, .int .u64 5, .int .u8 0, .string { data := #[] }, .slice none 0 0, .slice none 0 0, .int .u8 0, .int .u32 0, .int .u8 0, .string { data := #[] }, .string { data := #[] }, .string { data := #[] }, .int .u8 0, .int .u8 0, .string { data := #[] }]] wx fun e w' => e = .returned (.int .i64 0) ∧ Upd (fun _ => False) wx w') := fun wx => by
    have h := mcheck_any m18 wf18 txt18 (lists_nil wx m18 rfl rfl)
    rw [may18] at h
    exact h
  have HC0 : Hid (∀ wx : World, Calls Try.prog 12 #[.agg #[.int .u8 0, .int .u64 0, .int .u8 0, .int .u64 0, .int .u64 0, .int .u8 0, .string { data := #[] }, .slice none 0 0, .slice none 0 0, .int .u8 0, .int .u32 0, .int .u8 0, .string { data := #[] }, .string { data := #[] }, .string { data := #[] }, .int .u8 0, .int .u8 0, .string { data := #[] }]] wx fun e w' => e = .returned (.int .i64 2) ∧ Upd (fun _ => False) wx w') := fun wx => by
    have h := mcheck_any (ms0 0) (wf_ms0 0 (by decide) (by decide)) ⟨Nat.zero_le _, Nat.zero_le _, Nat.zero_le _, Nat.zero_le _⟩ (lists_nil wx (ms0 0) rfl rfl)
    rw [may0] at h
    exact h
  have HS : Hid (∀ (wx : World) (Av Ai : Option Addr) (nv cv ni ci : Nat) (G : Nat → Prop), Lists wx G m18 (.slice Av nv cv) (.slice Ai ni ci) → Calls Try.prog 19 #[.agg #[.int .u8 4, .int .u64 2, .int .u8 1, .int .u64 0, .int .u64 5, .int .u8 0, .string { data := #[] }, .slice Av nv cv, .slice Ai ni ci, .int .u8 0, .int .u32 0, .int .u8 0, .string { data := #[] }, .string { data := #[] }, .string { data := #[] }, .int .u8 0, .int .u8 0, .string { data := #[] }], .agg #[.int .u8 4, .int .u64 2, .int .u8 1, .int .u64 0, .int .u64 5, .int .u8 0, .string { data := #[] }, .slice none 0 0, .slice none 0 0, .int .u8 0, .int .u32 0, .int .u8 0, .string { data := #[] }, .string { data := #[] }, .string { data := #[] }, .int .u8 0, .int .u8 0, .string { data := #[] }]] wx fun e w' => e = .returned (.bool true) ∧ Upd (fun _ => False) wx w') := fun wx Av Ai nv cv ni ci G hl => by
    have h := msame_any m18 m18 wf18 wf18 Av Ai none none nv cv ni ci 0 0 0 0 hl (lists_nil wx m18 rfl rfl)
    rw [decide_eq_true rfl] at h
    exact h
  obtain ⟨S, hS⟩ : ∃ S, strOfNums l18 = S := ⟨_, rfl⟩
  have hsz : S.size = 13 := by rw [← hS]; rfl
  have hex : S.extract 9 13 = { data := #[4, 2, 1, 5] } := by rw [← hS]; rfl
  rw [hS] at HP HT
  clear hS
  go_enter Try.func9, Try.ntmps9
  go_upto_region 2 with (first | (refine wpList_store_row rfl 34 (.tmp 1) (.tmp 7) (by rfl) w.heap.size #[.int .u8 4, .int .u64 2, .int .u8 1, .int .u64 0, .int .u64 5, .int .u8 0, .string { data := #[] }, .slice none 0 0, .slice none 0 0, .int .u8 0, .int .u32 0, .int .u8 0, .string { data := #[] }, .string { data := #[] }, .string { data := #[] }, .int .u8 0, .int .u8 0, .string { data := #[] }] (by rfl) (by rfl) 34 #[.int .u8 0, .int .u64 0, .int .u8 0, .int .u64 0, .int .u64 0, .int .u8 0, .string { data := #[] }, .slice none 0 0, .slice none 0 0, .int .u8 0, .int .u32 0, .int .u8 0, .string { data := #[] }, .string { data := #[] }, .string { data := #[] }, .int .u8 0, .int .u8 0, .string { data := #[] }] (Blk.new w 34 #[.int .u8 0, .int .u64 0, .int .u8 0, .int .u64 0, .int .u64 0, .int .u8 0, .string { data := #[] }, .slice none 0 0, .slice none 0 0, .int .u8 0, .int .u32 0, .int .u8 0, .string { data := #[] }, .string { data := #[] }, .string { data := #[] }, .int .u8 0, .int .u8 0, .string { data := #[] }]) (by kernel_rfl) rfl (msCells_one m18 none none 0 0 0 0) ?_) | fail)
  obtain ⟨w1, hw1⟩ : ∃ w1, w1 = (w.alloc (.cells #[.int .u8 0, .int .u64 0, .int .u8 0, .int .u64 0, .int .u64 0, .int .u8 0, .string { data := #[] }, .slice none 0 0, .slice none 0 0, .int .u8 0, .int .u32 0, .int .u8 0, .string { data := #[] }, .string { data := #[] }, .string { data := #[] }, .int .u8 0, .int .u8 0, .string { data := #[] }] 34)).setRow w.heap.size #[.int .u8 4, .int .u64 2, .int .u8 1, .int .u64 0, .int .u64 5, .int .u8 0, .string { data := #[] }, .slice none 0 0, .slice none 0 0, .int .u8 0, .int .u32 0, .int .u8 0, .string { data := #[] }, .string { data := #[] }, .string { data := #[] }, .int .u8 0, .int .u8 0, .string { data := #[] }] := ⟨_, rfl⟩
  rw [← hw1]
  have hb1 : Blk w1 w.heap.size 34 #[.int .u8 4, .int .u64 2, .int .u8 1, .int .u64 0, .int .u64 5, .int .u8 0, .string { data := #[] }, .slice none 0 0, .slice none 0 0, .int .u8 0, .int .u32 0, .int .u8 0, .string { data := #[] }, .string { data := #[] }, .string { data := #[] }, .int .u8 0, .int .u8 0, .string { data := #[] }] := by rw [hw1]; exact Blk.setRow (Blk.new w 34 #[.int .u8 0, .int .u64 0, .int .u8 0, .int .u64 0, .int .u64 0, .int .u8 0, .string { data := #[] }, .slice none 0 0, .slice none 0 0, .int .u8 0, .int .u32 0, .int .u8 0, .string { data := #[] }, .string { data := #[] }, .string { data := #[] }, .int .u8 0, .int .u8 0, .string { data := #[] }])
  have hu1 : Upd (fun _ => False) w w1 := by rw [hw1]; exact ((Upd.refl _ _).alloc _).setRow (.inr (Nat.le_refl _)) _
  have HB1 := Lib.hid hb1
  have HU1 := Lib.hid hu1
  clear hw1 hb1 hu1
  have hrow := HB1.out
  go_wp2_with (first | (refine wpList_load_row rfl 34 (.tmp 1) (by rfl) w.heap.size (by rfl) 34 _ (0, 0) _ hrow Try.underlying34 rfl (by kernel_rfl) ?_) | fail)
  clear hrow
  refine (HP.out _).mono ?_
  rintro e w2 ⟨rfl, hu2⟩
  have HU2 := Lib.hid (HU1.out.trans hu2 (fun _ _ h => h))
  have HB2 := Lib.hid (HB1.out.upd hu2 id)
  clear hu2
  go_wp2_with fail
  refine (HT.out _).mono ?_
  rintro e w3 ⟨vv, vi, rfl, hu3, hown⟩
  have HU3 := Lib.hid (HU2.out.trans hu3 (fun _ _ h => h))
  have HB3 := Lib.hid (HB2.out.upd hu3 id)
  have hll := hown.lists
  obtain ⟨Av, nv, cv, Ai, ni, ci, rfl, rfl⟩ := hll.shape
  have HL3 := Lib.hid hll
  clear hu3 hown hll
  have hmsv : msV (m18, (0 : Int)).1 (.slice Av nv cv) (.slice Ai ni ci) = .agg #[.int .u8 4, .int .u64 2, .int .u8 1, .int .u64 0, .int .u64 5, .int .u8 0, .string { data := #[] }, .slice Av nv cv, .slice Ai ni ci, .int .u8 0, .int .u32 0, .int .u8 0, .string { data := #[] }, .string { data := #[] }, .string { data := #[] }, .int .u8 0, .int .u8 0, .string { data := #[] }] := rfl
  rw [hmsv]
  clear hmsv
  go_upto_region 4 with (first | (refine wpList_store_row rfl 34 (.tmp 4) (.tmp 16) (by rfl) w3.heap.size #[.int .u8 4, .int .u64 2, .int .u8 1, .int .u64 0, .int .u64 5, .int .u8 0, .string { data := #[] }, .slice Av nv cv, .slice Ai ni ci, .int .u8 0, .int .u32 0, .int .u8 0, .string { data := #[] }, .string { data := #[] }, .string { data := #[] }, .int .u8 0, .int .u8 0, .string { data := #[] }] (by rfl) (by rfl) 34 #[.int .u8 0, .int .u64 0, .int .u8 0, .int .u64 0, .int .u64 0, .int .u8 0, .string { data := #[] }, .slice none 0 0, .slice none 0 0, .int .u8 0, .int .u32 0, .int .u8 0, .string { data := #[] }, .string { data := #[] }, .string { data := #[] }, .int .u8 0, .int .u8 0, .string { data := #[] }] (Blk.new w3 34 #[.int .u8 0, .int .u64 0, .int .u8 0, .int .u64 0, .int .u64 0, .int .u8 0, .string { data := #[] }, .slice none 0 0, .slice none 0 0, .int .u8 0, .int .u32 0, .int .u8 0, .string { data := #[] }, .string { data := #[] }, .string { data := #[] }, .int .u8 0, .int .u8 0, .string { data := #[] }]) (by kernel_rfl) rfl (msCells_one m18 Av Ai nv cv ni ci) ?_) | fail)
  obtain ⟨w4, hw4⟩ : ∃ w4, w4 = (w3.alloc (.cells #[.int .u8 0, .int .u64 0, .int .u8 0, .int .u64 0, .int .u64 0, .int .u8 0, .string { data := #[] }, .slice none 0 0, .slice none 0 0, .int .u8 0, .int .u32 0, .int .u8 0, .string { data := #[] }, .string { data := #[] }, .string { data := #[] }, .int .u8 0, .int .u8 0, .string { data := #[] }] 34)).setRow w3.heap.size #[.int .u8 4, .int .u64 2, .int .u8 1, .int .u64 0, .int .u64 5, .int .u8 0, .string { data := #[] }, .slice Av nv cv, .slice Ai ni ci, .int .u8 0, .int .u32 0, .int .u8 0, .string { data := #[] }, .string { data := #[] }, .string { data := #[] }, .int .u8 0, .int .u8 0, .string { data := #[] }] := ⟨_, rfl⟩
  rw [← hw4]
  have hb4 : Blk w4 w3.heap.size 34 #[.int .u8 4, .int .u64 2, .int .u8 1, .int .u64 0, .int .u64 5, .int .u8 0, .string { data := #[] }, .slice Av nv cv, .slice Ai ni ci, .int .u8 0, .int .u32 0, .int .u8 0, .string { data := #[] }, .string { data := #[] }, .string { data := #[] }, .int .u8 0, .int .u8 0, .string { data := #[] }] := by rw [hw4]; exact Blk.setRow (Blk.new w3 34 #[.int .u8 0, .int .u64 0, .int .u8 0, .int .u64 0, .int .u64 0, .int .u8 0, .string { data := #[] }, .slice none 0 0, .slice none 0 0, .int .u8 0, .int .u32 0, .int .u8 0, .string { data := #[] }, .string { data := #[] }, .string { data := #[] }, .int .u8 0, .int .u8 0, .string { data := #[] }])
  have hu4 : Upd (fun _ => False) w3 w4 := by rw [hw4]; exact ((Upd.refl _ _).alloc _).setRow (.inr (Nat.le_refl _)) _
  have HB4 := Lib.hid hb4
  have HK4 := Lib.hid (HB3.out.upd hu4 id)
  have HU4 := Lib.hid (HU3.out.trans hu4 (fun _ _ h => h))
  have HL4 := Lib.hid (HL3.out.upd hu4 (fun _ _ h => h))
  clear hw4 hb4 hu4
  have hl1 := load_msg HB4.out rfl
  simp [go_sem] at hl1
  have hl2 := load_msg HK4.out rfl
  simp [go_sem] at hl2
  go_wp2_with fail
  clear hl1 hl2
  refine (HS.out _ _ _ _ _ _ _ _ HL4.out).mono ?_
  rintro e w5 ⟨rfl, hu5⟩
  have HU5 := Lib.hid (HU4.out.trans hu5 (fun _ _ h => h))
  have HK5 := Lib.hid (HK4.out.upd hu5 id)
  clear hu5
  go_wp2_with fail
  refine (HC0.out _).mono ?_
  rintro e w6 ⟨rfl, hu6⟩
  have HU6 := Lib.hid (HU5.out.trans hu6 (fun _ _ h => h))
  have HK6 := Lib.hid (HK5.out.upd hu6 id)
  clear hu6
  have hl3 := load_msg HK6.out rfl
  simp [go_sem] at hl3
  go_wp2_with fail
  clear hl3
  refine (HC.out _).mono ?_
  rintro e w7 ⟨rfl, hu7⟩
  have HU7 := Lib.hid (HU6.out.trans hu7 (fun _ _ h => h))
  clear hu7
  go_wp2_with fail
  go_ret
  exact ⟨rfl, HU7.out⟩
end Go.Proofs.Ytaielcokfpodaaa
