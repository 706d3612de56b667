/-
  Layer 18: MsgLong. Conditions: none.
-/
import Derived.Test.YtaielcokfpodaaaLawC18
import Derived.Laws.OwnMore
import Derived.Test.YtaielcokfpodaaaLawD18
namespace Go.Proofs.Ytaielcokfpodaaa
open Go.RowKit

def long18 (Z : List Int) : Ms := ⟨12, 0, 0, 0, 1, 0, Z, [], [], cm0, 0, []⟩
theorem long_wf {Z : List Int} (hb : Byt Z) (hl : Z.length ≤ 65536) : WfM (long18 Z) := ⟨(by decide : (0 : Int) ≤ 12 ∧ (12 : Int) ≤ 255), b64, b255, b64, (by decide : (0 : Int) ≤ 1 ∧ (1 : Int) < 18446744073709551616), b255, ⟨hb, hl⟩, ⟨Nat.zero_le _, fun _ h => by cases h⟩, ⟨Nat.zero_le _, fun _ h => by cases h⟩, wfC0, b255, Byt.nil⟩
theorem long_txt (Z : List Int) : TxtM (long18 Z) := ⟨Nat.zero_le _, Nat.zero_le _, Nat.zero_le _, Nat.zero_le _⟩
theorem long_pts (Z : List Int) : ptsOf (long18 Z).kind = [.slot, .value] := rfl
theorem long_may (Z : List Int) : mayM (long18 Z) = true := by
  have h : ownM (long18 Z) = long18 Z := rfl
  unfold mayM
  rw [h, long_pts]
  simp [long18, ptMay, risesB]
theorem long_ins (Z : List Int) : insM (long18 Z) = 12 :: (numE 1 ++ (numE Z.length ++ Z)) := by
  unfold insM
  rw [long_pts]
  simp [long18, ptBy, strBy]
theorem nk64k {n : Nat} (h1 : 256 ≤ n) (h : n < 65536) : (numE n).length = 3 := by
  unfold numE
  rw [if_neg (by omega)]
  have : nk n = 2 := by
    unfold nk
    rw [if_neg (by omega), if_pos h]
  rw [this, List.length_cons, digs_len]
theorem long_len {Z : List Int} (h0 : 256 ≤ Z.length) (h : Z.length < 65536) : (insM (long18 Z)).length = Z.length + 5 := by
  rw [long_ins]
  have h1 : (numE 1).length = 1 := by decide
  simp only [List.length_cons, List.length_append, h1, nk64k h0 h]
  omega

theorem made_one (v : Value) (n : Nat) : (madeCells #[v] n).toList = List.replicate n v := by
  rw [List.eq_replicate_iff]
  refine ⟨by simp [size_madeCells], fun b hb => ?_⟩
  simp only [madeCells, Array.toList_map, List.mem_map] at hb
  obtain ⟨i, _, rfl⟩ := hb
  simp [Nat.mod_one]

set_option maxRecDepth 100000 in
set_option maxHeartbeats 8000000 in
theorem msgLong_walk (w : World) : Calls Try.prog 3 #[] w fun e w' => e = .returned (.bool true) ∧ Below w.heap.size w w' := by
  obtain ⟨i0, hi0, hz0, hz1, hz2⟩ := info_parts infoB
  have HWK := Lib.hid (fun wx => wakes18_true wx)
  have hmk0 := run_makeSlice_full (P := Try.prog) w 0 23 5 i0 (.int .u8 0) 1 Try.underlying23 hi0 hz0 hz1 .i64 .i64 65531 (by decide) (by rw [hz2]; decide) (by simp only [maxLen]; omega) (Nat.zero_le _)
  obtain ⟨w1, hmk1, hown, hgr⟩ := hmk0
  have hmk : (Instr.makeSlice 23 (.int .i64 65531) (.int .i64 65531)).run Try.prog w = .ok (.slice (some ⟨w.heap.size, 0, none⟩) 65531 65531) w1 := hmk1
  clear hmk1
  obtain ⟨Z, hZ⟩ : ∃ Z : List Int, Z = List.replicate 65531 0 := ⟨_, rfl⟩
  have hZl : Z.length = 65531 := by rw [hZ, List.length_replicate]
  have hZb : Byt Z := by
    intro x hx
    rw [hZ] at hx
    have := List.eq_of_mem_replicate hx
    omega
  have hZc : (madeCells (Value.int .u8 0).cells (65531 * 1)).toList = Z.map (Value.int .u8) := by
    rw [hZ, List.map_replicate]
    exact made_one _ _
  rw [hZc] at hown
  have hcv := run_string_of_sl (P := Try.prog) (xs := Z) 23 9 5 Try.underlying23 Try.underlying5 Try.underlying9 (Sl.own hown)
  have HU1 : Hid (Upd (fun _ => False) w w1) := (Upd.refl _ w).grown hgr (fun k hk => by cases hk)
  have HP1 : Hid (∀ wx : World, Calls Try.prog 7 #[.agg #[.int .u8 12, .int .u64 0, .int .u8 0, .int .u64 0, .int .u64 1, .int .u8 0, .string (strOfNums Z), .slice none 0 0, .slice none 0 0, .int .u8 0, .int .u32 0, .int .u8 0, .string { data := #[] }, .string { data := #[] }, .string { data := #[] }, .int .u8 0, .int .u8 0, .string { data := #[] }]] wx fun e w' => e = .returned (.tuple #[.string (strOfNums (frameB (insM (long18 Z)))), .int .i64 0]) ∧ Upd (fun _ => False) wx w') := fun wx => by
    have h := mput_any (long18 Z) (long_wf hZb (by omega)) (long_txt Z) (lists_nil wx (long18 Z) rfl rfl) ⟨Nat.zero_le _, Nat.zero_le _⟩
    rw [putM_ok (long_may Z) (by rw [long_len (by omega) (by omega)]; omega)] at h
    exact h
  have hbf := frameB_byt _ (insM_byt (long_wf hZb (show Z.length ≤ 65536 by omega)))
  have hlf : (frameB (insM (long18 Z))).length ≤ 1000000 := by
    have := (numE_len (insM (long18 Z)).length).2
    have h2 := long_len (Z := Z) (by omega) (by omega)
    simp only [frameB, List.length_append, sumB_len]
    omega
  have HT1 : Hid (∀ wx : World, Calls Try.prog 8 #[.string (strOfNums (frameB (insM (long18 Z))))] wx (TakeR wx (long18 Z, 0))) := fun wx => by
    have h := mtake_any _ hbf (by omega) wx
    rw [takeM_put (long_wf hZb (by omega)) (long_may Z) (by rw [long_len (by omega) (by omega)]; omega)] at h
    exact h
  obtain ⟨Y, hY⟩ : ∃ Y, Y = Z ++ [120] := ⟨_, rfl⟩
  have hYl : Y.length = 65532 := by rw [hY, List.length_append, hZl]; rfl
  have hYb : Byt Y := by rw [hY]; exact hZb.app (byt_one (by decide))
  have hcat : strOfNums Z ++ { data := #[120] } = strOfNums Y := by
    rw [hY, ← strOf_app]
    rfl
  have HP2 : Hid (∀ wx : World, Calls Try.prog 7 #[.agg #[.int .u8 12, .int .u64 0, .int .u8 0, .int .u64 0, .int .u64 1, .int .u8 0, .string (strOfNums Y), .slice none 0 0, .slice none 0 0, .int .u8 0, .int .u32 0, .int .u8 0, .string { data := #[] }, .string { data := #[] }, .string { data := #[] }, .int .u8 0, .int .u8 0, .string { data := #[] }]] wx fun e w' => e = .returned (.tuple #[.string { data := #[] }, .int .i64 6]) ∧ Upd (fun _ => False) wx w') := fun wx => by
    have h := mput_any (long18 Y) (long_wf hYb (by omega)) (long_txt Y) (lists_nil wx (long18 Y) rfl rfl) ⟨Nat.zero_le _, Nat.zero_le _⟩
    rw [putM_long (long_may Y) (by rw [long_len (by omega) (by omega)]; omega)] at h
    exact h
  have hsz : (strOfNums Z).size = 65531 := by rw [strOfNums_size, hZl]
  generalize frameB (insM (long18 Z)) = FB at *
  clear hZ hZc hZb hY hYl hYb hbf hlf hown hgr
  go_enter Try.func3, Try.ntmps3
  go_upto_region 2 with (first | (refine wpList_store_row rfl 34 (.tmp 1) (.tmp 10) (by rfl) w1.heap.size #[.int .u8 12, .int .u64 0, .int .u8 0, .int .u64 0, .int .u64 1, .int .u8 0, .string (strOfNums Z), .slice none 0 0, .slice none 0 0, .int .u8 0, .int .u32 0, .int .u8 0, .string { data := #[] }, .string { data := #[] }, .string { data := #[] }, .int .u8 0, .int .u8 0, .string { data := #[] }] (by rfl) (by rfl) 34 #[.int .u8 0, .int .u64 0, .int .u8 0, .int .u64 0, .int .u64 0, .int .u8 0, .string { data := #[] }, .slice none 0 0, .slice none 0 0, .int .u8 0, .int .u32 0, .int .u8 0, .string { data := #[] }, .string { data := #[] }, .string { data := #[] }, .int .u8 0, .int .u8 0, .string { data := #[] }] (Blk.new w1 34 #[.int .u8 0, .int .u64 0, .int .u8 0, .int .u64 0, .int .u64 0, .int .u8 0, .string { data := #[] }, .slice none 0 0, .slice none 0 0, .int .u8 0, .int .u32 0, .int .u8 0, .string { data := #[] }, .string { data := #[] }, .string { data := #[] }, .int .u8 0, .int .u8 0, .string { data := #[] }]) (by kernel_rfl) rfl (by simp [Value.oneCell']) ?_) | fail)
  obtain ⟨g, hg⟩ : ∃ g, g = w1.heap.size := ⟨_, rfl⟩
  obtain ⟨w2, hw2⟩ : ∃ w2, w2 = (w1.alloc (.cells #[.int .u8 0, .int .u64 0, .int .u8 0, .int .u64 0, .int .u64 0, .int .u8 0, .string { data := #[] }, .slice none 0 0, .slice none 0 0, .int .u8 0, .int .u32 0, .int .u8 0, .string { data := #[] }, .string { data := #[] }, .string { data := #[] }, .int .u8 0, .int .u8 0, .string { data := #[] }] 34)).setRow w1.heap.size #[.int .u8 12, .int .u64 0, .int .u8 0, .int .u64 0, .int .u64 1, .int .u8 0, .string (strOfNums Z), .slice none 0 0, .slice none 0 0, .int .u8 0, .int .u32 0, .int .u8 0, .string { data := #[] }, .string { data := #[] }, .string { data := #[] }, .int .u8 0, .int .u8 0, .string { data := #[] }] := ⟨_, rfl⟩
  rw [← hw2, ← hg]
  have hb2 : Blk w2 g 34 #[.int .u8 12, .int .u64 0, .int .u8 0, .int .u64 0, .int .u64 1, .int .u8 0, .string (strOfNums Z), .slice none 0 0, .slice none 0 0, .int .u8 0, .int .u32 0, .int .u8 0, .string { data := #[] }, .string { data := #[] }, .string { data := #[] }, .int .u8 0, .int .u8 0, .string { data := #[] }] := by rw [hw2, hg]; exact Blk.setRow (Blk.new w1 34 #[.int .u8 0, .int .u64 0, .int .u8 0, .int .u64 0, .int .u64 0, .int .u8 0, .string { data := #[] }, .slice none 0 0, .slice none 0 0, .int .u8 0, .int .u32 0, .int .u8 0, .string { data := #[] }, .string { data := #[] }, .string { data := #[] }, .int .u8 0, .int .u8 0, .string { data := #[] }])
  have hu2 : Upd (fun _ => False) w1 w2 := by rw [hw2]; exact ((Upd.refl _ _).alloc _).setRow (.inr (Nat.le_refl _)) _
  have HB2 := Lib.hid hb2
  have HU2 := Lib.hid (HU1.out.trans hu2 (fun _ _ h => h))
  have HG : Hid (w.heap.size ≤ g) := by
    show _ ≤ _
    rw [hg]
    exact HU1.out.size
  clear hw2 hg hu2 hmk hcv
  go_wp2_with (first | (refine wpList_load_row rfl 34 (.tmp 1) (by rfl) g (by rfl) 34 _ (0, 0) _ hb2 Try.underlying34 rfl (by kernel_rfl) ?_) | fail)
  clear hb2
  refine (HP1.out _).mono ?_
  rintro e w3 ⟨rfl, hu3⟩
  have HU3 := Lib.hid (HU2.out.trans hu3 (fun _ _ h => h))
  have HB3 := Lib.hid (HB2.out.upd hu3 id)
  clear hu3
  go_wp2_with fail
  refine (HT1.out _).mono ?_
  rintro e w4 ⟨xv, xi, rfl, hu4, hox⟩
  have HU4 := Lib.hid (HU3.out.trans hu4 (fun _ _ h => h))
  have HB4 := Lib.hid (HB3.out.upd hu4 id)
  obtain ⟨Xv, xnv, xcv, Xi, xni, xci, rfl, rfl⟩ := hox.lists.shape
  clear hu4 hox
  have hmsv : msV (long18 Z, (0 : Int)).1 (.slice Xv xnv xcv) (.slice Xi xni xci) = .agg (msCells (long18 Z) (.slice Xv xnv xcv) (.slice Xi xni xci)) := rfl
  rw [hmsv]
  clear hmsv
  go_upto_region 4 with (first | (refine wpList_store_row rfl 34 (.tmp 4) (.tmp 19) (by rfl) w4.heap.size (msCells (long18 Z) (.slice Xv xnv xcv) (.slice Xi xni xci)) (by rfl) (by rfl) 34 #[.int .u8 0, .int .u64 0, .int .u8 0, .int .u64 0, .int .u64 0, .int .u8 0, .string { data := #[] }, .slice none 0 0, .slice none 0 0, .int .u8 0, .int .u32 0, .int .u8 0, .string { data := #[] }, .string { data := #[] }, .string { data := #[] }, .int .u8 0, .int .u8 0, .string { data := #[] }] (Blk.new w4 34 #[.int .u8 0, .int .u64 0, .int .u8 0, .int .u64 0, .int .u64 0, .int .u8 0, .string { data := #[] }, .slice none 0 0, .slice none 0 0, .int .u8 0, .int .u32 0, .int .u8 0, .string { data := #[] }, .string { data := #[] }, .string { data := #[] }, .int .u8 0, .int .u8 0, .string { data := #[] }]) (by kernel_rfl) rfl (msCells_one (long18 Z) Xv Xi xnv xcv xni xci) ?_) | fail)
  obtain ⟨gx, hgx⟩ : ∃ g, g = w4.heap.size := ⟨_, rfl⟩
  obtain ⟨w5, hw5⟩ : ∃ w5, w5 = (w4.alloc (.cells #[.int .u8 0, .int .u64 0, .int .u8 0, .int .u64 0, .int .u64 0, .int .u8 0, .string { data := #[] }, .slice none 0 0, .slice none 0 0, .int .u8 0, .int .u32 0, .int .u8 0, .string { data := #[] }, .string { data := #[] }, .string { data := #[] }, .int .u8 0, .int .u8 0, .string { data := #[] }] 34)).setRow w4.heap.size (msCells (long18 Z) (.slice Xv xnv xcv) (.slice Xi xni xci)) := ⟨_, rfl⟩
  rw [← hw5, ← hgx]
  have hb5 : Blk w5 gx 34 (msCells (long18 Z) (.slice Xv xnv xcv) (.slice Xi xni xci)) := by rw [hw5, hgx]; exact Blk.setRow (Blk.new w4 34 #[.int .u8 0, .int .u64 0, .int .u8 0, .int .u64 0, .int .u64 0, .int .u8 0, .string { data := #[] }, .slice none 0 0, .slice none 0 0, .int .u8 0, .int .u32 0, .int .u8 0, .string { data := #[] }, .string { data := #[] }, .string { data := #[] }, .int .u8 0, .int .u8 0, .string { data := #[] }])
  have hu5 : Upd (fun _ => False) w4 w5 := by rw [hw5]; exact ((Upd.refl _ _).alloc _).setRow (.inr (Nat.le_refl _)) _
  have HX5 := Lib.hid hb5
  have HU5 := Lib.hid (HU4.out.trans hu5 (fun _ _ h => h))
  have HB5 := Lib.hid (HB4.out.upd hu5 id)
  have HGX : Hid (gx ≠ g) := by
    show _ ≠ _
    have := HB4.out.lt
    omega
  have y6 : w5.cell? ⟨g, 6, none⟩ = some (.string (strOfNums Z)) := HB5.out.cell 6
  have f6 := HB5.out.frozen 6
  clear hw5 hgx hb5 hu5
  go_upto_region 5 with fail
  obtain ⟨w6, hw6⟩ : ∃ w6, w6 = w5.setCell ⟨g, 6, none⟩ (.string (strOfNums Y)) := ⟨_, rfl⟩
  rw [← hw6]
  have hb6 : Blk w6 g 34 #[.int .u8 12, .int .u64 0, .int .u8 0, .int .u64 0, .int .u64 1, .int .u8 0, .string (strOfNums Y), .slice none 0 0, .slice none 0 0, .int .u8 0, .int .u32 0, .int .u8 0, .string { data := #[] }, .string { data := #[] }, .string { data := #[] }, .int .u8 0, .int .u8 0, .string { data := #[] }] := by rw [hw6]; exact HB5.out.set_ 6 _
  have hu6 : Upd (fun j => j = g) w5 w6 := by rw [hw6]; exact Upd.set4 (F := fun j => j = g) rfl (Upd.refl _ _) _ _
  have HX6 := Lib.hid (HX5.out.upd hu6 HGX.out)
  have HU6 : Hid (Upd (fun _ => False) w w6) := HU5.out.trans hu6 (fun i hi e => by have := HG.out; omega)
  clear hw6 hu6 y6 f6
  go_wp2_with (first | (refine wpList_load_row rfl 34 (.tmp 1) (by rfl) g (by rfl) 34 _ (0, 0) _ hb6 Try.underlying34 rfl (by kernel_rfl) ?_) | fail)
  clear hb6
  refine (HP2.out _).mono ?_
  rintro e w7 ⟨rfl, hu7⟩
  have HU7 := Lib.hid (HU6.out.trans hu7 (fun _ _ h => h))
  have y6 : w7.cell? ⟨gx, 6, none⟩ = some (.string (strOfNums Z)) := (HX6.out.upd hu7 id).cell 6
  clear hu7
  go_wp2_with fail
  refine (HWK.out _).mono ?_
  rintro e w8 ⟨rfl, hu8⟩
  have HU8 := Lib.hid (HU7.out.trans hu8 (fun _ _ h => h))
  clear hu8
  go_wp2_with fail
  go_ret
  exact ⟨rfl, HU8.out.below⟩
end Go.Proofs.Ytaielcokfpodaaa
