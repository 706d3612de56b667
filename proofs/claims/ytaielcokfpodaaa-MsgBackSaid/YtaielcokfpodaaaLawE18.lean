/-
  Layer 18: MsgBack. Conditions: none.
-/
import Derived.Test.YtaielcokfpodaaaLawD18
import Derived.Test.YtaielcokfpodaaaMsgS
namespace Go.Proofs.Ytaielcokfpodaaa
open Go.RowKit

/-- What a message's bytes are taken as, and what was put of what was taken. -/
theorem take_put {m : Ms} {ls : List Int} (hb : Byt ls) (h : takeM ls = (m, 0)) : WfM m ∧ mayM m = true ∧ putM m = (ls, 0) ∧ (m.votes.flatMap vtBy).length ≤ 50000000 ∧ (m.items.flatMap itBy).length ≤ 50000000 := by
  obtain ⟨h1, h2, h3, h4⟩ := takeM_ok h hb
  have hl := lists_le h1
  exact ⟨h4, h1, by rw [putM_ok h1 h3, h2], by omega, by omega⟩
theorem may_txt {m : Ms} (h : mayM m = true) : TxtM m := by
  have h0 : ∀ (l : List Pt) (tt : Ms), TxtM tt → l.all (ptMay m) = true → TxtM (l.foldl (ptMove m) tt) := by
    intro l
    induction l with
    | nil => exact fun tt ht _ => ht
    | cons p l ih =>
      intro tt ht ha
      rw [List.all_cons, Bool.and_eq_true] at ha
      rw [List.foldl_cons]
      refine ih _ ?_ ha.2
      cases p
      case whole =>
        have := cmdMay_len (c := m.cmd) ha.1
        exact ⟨by show m.cmd.key.length ≤ _; omega, by show m.cmd.old.length ≤ _; omega, by show m.cmd.new.length ≤ _; omega, ht.text⟩
      case name => exact ⟨Nat.zero_le _, Nat.zero_le _, Nat.zero_le _, ht.text⟩
      case reply =>
        have h1 := ha.1
        simp only [ptMay, Bool.and_eq_true, decide_eq_true_eq] at h1
        exact ⟨ht.key, ht.old, ht.new, by show m.text.length ≤ _; omega⟩
      all_goals exact ⟨ht.key, ht.old, ht.new, ht.text⟩
  obtain ⟨_, h2, h3⟩ := mayM_parts h
  have := h0 (ptsOf m.kind) (ms0 m.kind) ⟨Nat.zero_le _, Nat.zero_le _, Nat.zero_le _, Nat.zero_le _⟩ h2
  have e : (ptsOf m.kind).foldl (ptMove m) (ms0 m.kind) = m := h3
  rwa [e] at this
theorem strOf_drop (l : List Int) : (strOfNums l).extract 0 (l.length - 1) = strOfNums l.dropLast := by
  rw [strOf_upto, List.dropLast_eq_take]
theorem strOf_zero (l : List Int) : strOfNums l ++ { data := #[0] } = strOfNums (l ++ [0]) := by
  rw [← strOf_app]
  rfl

set_option maxRecDepth 100000 in
set_option maxHeartbeats 16000000 in
theorem msgBack_ga (a0 b0 : Ms) (ls : List Int) (w : World) {Av Ai Bv Bi : Option Addr} {nv cv ni ci mv dv mi di : Nat} (ha : RawM a0) (la : Lists w (fun k => k < w.heap.size) a0 (.slice Av nv cv) (.slice Ai ni ci)) (hb : RawM b0) (lb : Lists w (fun k => k < w.heap.size) b0 (.slice Bv mv dv) (.slice Bi mi di)) (hs : Byt ls) (_hsl : ls.length ≤ maxLen) (hg : greatM a0 = true) :
    Calls Try.prog 4 #[msV a0 (.slice Av nv cv) (.slice Ai ni ci), msV b0 (.slice Bv mv dv) (.slice Bi mi di), .string (strOfNums ls)] w fun e w' => e = .returned (.bool true) ∧ Below w.heap.size w w' := by
  have HWK := Lib.hid (fun wx => wakes18_true wx)
  have HGA := Lib.hid (fun (wx : World) (hu : Upd (fun _ => False) w wx) => great_any a0 ha (la.upd hu (fun _ _ h => h)))
  have HGB := Lib.hid (fun (wx : World) (hu : Upd (fun _ => False) w wx) => great_any b0 hb (lb.upd hu (fun _ _ h => h)))
  have HLA := Lib.hid la
  have HLB := Lib.hid lb
  have hz : (strOfNums ls).size = ls.length := strOfNums_size ls
  have HSB := Lib.hid hs
  unfold msV msCells at HGA HGB ⊢
  rw [hg] at HGA
  clear ha la hb lb hs hg HGB
  go_enter Try.func4, Try.ntmps4
  go_upto_region 1 with fail
  have ha1 := (Blk.new w 34 #[.int .u8 a0.kind, .int .u64 a0.bn, .int .u8 a0.br, .int .u64 a0.base, .int .u64 a0.slot, .int .u8 a0.node, .string (strOfNums a0.val), .slice Av nv cv, .slice Ai ni ci, .int .u8 a0.cmd.client, .int .u32 a0.cmd.seq, .int .u8 a0.cmd.kind, .string (strOfNums a0.cmd.key), .string (strOfNums a0.cmd.old), .string (strOfNums a0.cmd.new), .int .u8 a0.cmd.set, .int .u8 a0.code, .string (strOfNums a0.text)]).alloc (.cells #[.int .u8 b0.kind, .int .u64 b0.bn, .int .u8 b0.br, .int .u64 b0.base, .int .u64 b0.slot, .int .u8 b0.node, .string (strOfNums b0.val), .slice Bv mv dv, .slice Bi mi di, .int .u8 b0.cmd.client, .int .u32 b0.cmd.seq, .int .u8 b0.cmd.kind, .string (strOfNums b0.cmd.key), .string (strOfNums b0.cmd.old), .string (strOfNums b0.cmd.new), .int .u8 b0.cmd.set, .int .u8 b0.code, .string (strOfNums b0.text)] 34)
  have hb1 := Blk.newAt (w.alloc (.cells #[.int .u8 a0.kind, .int .u64 a0.bn, .int .u8 a0.br, .int .u64 a0.base, .int .u64 a0.slot, .int .u8 a0.node, .string (strOfNums a0.val), .slice Av nv cv, .slice Ai ni ci, .int .u8 a0.cmd.client, .int .u32 a0.cmd.seq, .int .u8 a0.cmd.kind, .string (strOfNums a0.cmd.key), .string (strOfNums a0.cmd.old), .string (strOfNums a0.cmd.new), .int .u8 a0.cmd.set, .int .u8 a0.code, .string (strOfNums a0.text)] 34)) (g := w.heap.size + 1) 34 #[.int .u8 b0.kind, .int .u64 b0.bn, .int .u8 b0.br, .int .u64 b0.base, .int .u64 b0.slot, .int .u8 b0.node, .string (strOfNums b0.val), .slice Bv mv dv, .slice Bi mi di, .int .u8 b0.cmd.client, .int .u32 b0.cmd.seq, .int .u8 b0.cmd.kind, .string (strOfNums b0.cmd.key), .string (strOfNums b0.cmd.old), .string (strOfNums b0.cmd.new), .int .u8 b0.cmd.set, .int .u8 b0.code, .string (strOfNums b0.text)] (by simp)
  have hu1 : Upd (fun _ => False) w ((w.alloc (.cells #[.int .u8 a0.kind, .int .u64 a0.bn, .int .u8 a0.br, .int .u64 a0.base, .int .u64 a0.slot, .int .u8 a0.node, .string (strOfNums a0.val), .slice Av nv cv, .slice Ai ni ci, .int .u8 a0.cmd.client, .int .u32 a0.cmd.seq, .int .u8 a0.cmd.kind, .string (strOfNums a0.cmd.key), .string (strOfNums a0.cmd.old), .string (strOfNums a0.cmd.new), .int .u8 a0.cmd.set, .int .u8 a0.code, .string (strOfNums a0.text)] 34)).alloc (.cells #[.int .u8 b0.kind, .int .u64 b0.bn, .int .u8 b0.br, .int .u64 b0.base, .int .u64 b0.slot, .int .u8 b0.node, .string (strOfNums b0.val), .slice Bv mv dv, .slice Bi mi di, .int .u8 b0.cmd.client, .int .u32 b0.cmd.seq, .int .u8 b0.cmd.kind, .string (strOfNums b0.cmd.key), .string (strOfNums b0.cmd.old), .string (strOfNums b0.cmd.new), .int .u8 b0.cmd.set, .int .u8 b0.code, .string (strOfNums b0.text)] 34)) := ((Upd.refl _ _).alloc _).alloc _
  generalize (w.alloc (.cells #[.int .u8 a0.kind, .int .u64 a0.bn, .int .u8 a0.br, .int .u64 a0.base, .int .u64 a0.slot, .int .u8 a0.node, .string (strOfNums a0.val), .slice Av nv cv, .slice Ai ni ci, .int .u8 a0.cmd.client, .int .u32 a0.cmd.seq, .int .u8 a0.cmd.kind, .string (strOfNums a0.cmd.key), .string (strOfNums a0.cmd.old), .string (strOfNums a0.cmd.new), .int .u8 a0.cmd.set, .int .u8 a0.code, .string (strOfNums a0.text)] 34)).alloc (.cells #[.int .u8 b0.kind, .int .u64 b0.bn, .int .u8 b0.br, .int .u64 b0.base, .int .u64 b0.slot, .int .u8 b0.node, .string (strOfNums b0.val), .slice Bv mv dv, .slice Bi mi di, .int .u8 b0.cmd.client, .int .u32 b0.cmd.seq, .int .u8 b0.cmd.kind, .string (strOfNums b0.cmd.key), .string (strOfNums b0.cmd.old), .string (strOfNums b0.cmd.new), .int .u8 b0.cmd.set, .int .u8 b0.code, .string (strOfNums b0.text)] 34) = w1 at *
  have HA1 := Lib.hid ha1
  have HB1 := Lib.hid hb1
  have HU1 := Lib.hid hu1
  clear hb1 hu1
  go_wp2_with (first | (refine wpList_load_row rfl 34 (.tmp 3) (by rfl) w.heap.size (by rfl) 34 _ (0, 0) _ ha1 Try.underlying34 rfl (by kernel_rfl) ?_) | fail)
  clear ha1
  refine (HGA.out _ HU1.out).mono ?_
  rintro e w2 ⟨rfl, hu2⟩
  have HU2 := Lib.hid (HU1.out.trans hu2 (fun _ _ h => h))
  have HA2 := Lib.hid (HA1.out.upd hu2 id)
  have HB2 := Lib.hid (HB1.out.upd hu2 id)
  clear hu2
  go_wp2_with fail
  refine (HWK.out _).mono ?_
  rintro e w3 ⟨rfl, hu3⟩
  have HU3 := Lib.hid (HU2.out.trans hu3 (fun _ _ h => h))
  clear hu3
  go_wp2_with fail
  go_ret
  exact ⟨rfl, HU3.out.below⟩
set_option maxRecDepth 100000 in
set_option maxHeartbeats 16000000 in
theorem msgBack_gb (a0 b0 : Ms) (ls : List Int) (w : World) {Av Ai Bv Bi : Option Addr} {nv cv ni ci mv dv mi di : Nat} (ha : RawM a0) (la : Lists w (fun k => k < w.heap.size) a0 (.slice Av nv cv) (.slice Ai ni ci)) (hb : RawM b0) (lb : Lists w (fun k => k < w.heap.size) b0 (.slice Bv mv dv) (.slice Bi mi di)) (hs : Byt ls) (_hsl : ls.length ≤ maxLen) (hg : greatM a0 = false) (hh : greatM b0 = true) :
    Calls Try.prog 4 #[msV a0 (.slice Av nv cv) (.slice Ai ni ci), msV b0 (.slice Bv mv dv) (.slice Bi mi di), .string (strOfNums ls)] w fun e w' => e = .returned (.bool true) ∧ Below w.heap.size w w' := by
  have HWK := Lib.hid (fun wx => wakes18_true wx)
  have HGA := Lib.hid (fun (wx : World) (hu : Upd (fun _ => False) w wx) => great_any a0 ha (la.upd hu (fun _ _ h => h)))
  have HGB := Lib.hid (fun (wx : World) (hu : Upd (fun _ => False) w wx) => great_any b0 hb (lb.upd hu (fun _ _ h => h)))
  have HLA := Lib.hid la
  have HLB := Lib.hid lb
  have hz : (strOfNums ls).size = ls.length := strOfNums_size ls
  have HSB := Lib.hid hs
  unfold msV msCells at HGA HGB ⊢
  rw [hg] at HGA
  rw [hh] at HGB
  clear ha la hb lb hs hg hh
  go_enter Try.func4, Try.ntmps4
  go_upto_region 1 with fail
  have ha1 := (Blk.new w 34 #[.int .u8 a0.kind, .int .u64 a0.bn, .int .u8 a0.br, .int .u64 a0.base, .int .u64 a0.slot, .int .u8 a0.node, .string (strOfNums a0.val), .slice Av nv cv, .slice Ai ni ci, .int .u8 a0.cmd.client, .int .u32 a0.cmd.seq, .int .u8 a0.cmd.kind, .string (strOfNums a0.cmd.key), .string (strOfNums a0.cmd.old), .string (strOfNums a0.cmd.new), .int .u8 a0.cmd.set, .int .u8 a0.code, .string (strOfNums a0.text)]).alloc (.cells #[.int .u8 b0.kind, .int .u64 b0.bn, .int .u8 b0.br, .int .u64 b0.base, .int .u64 b0.slot, .int .u8 b0.node, .string (strOfNums b0.val), .slice Bv mv dv, .slice Bi mi di, .int .u8 b0.cmd.client, .int .u32 b0.cmd.seq, .int .u8 b0.cmd.kind, .string (strOfNums b0.cmd.key), .string (strOfNums b0.cmd.old), .string (strOfNums b0.cmd.new), .int .u8 b0.cmd.set, .int .u8 b0.code, .string (strOfNums b0.text)] 34)
  have hb1 := Blk.newAt (w.alloc (.cells #[.int .u8 a0.kind, .int .u64 a0.bn, .int .u8 a0.br, .int .u64 a0.base, .int .u64 a0.slot, .int .u8 a0.node, .string (strOfNums a0.val), .slice Av nv cv, .slice Ai ni ci, .int .u8 a0.cmd.client, .int .u32 a0.cmd.seq, .int .u8 a0.cmd.kind, .string (strOfNums a0.cmd.key), .string (strOfNums a0.cmd.old), .string (strOfNums a0.cmd.new), .int .u8 a0.cmd.set, .int .u8 a0.code, .string (strOfNums a0.text)] 34)) (g := w.heap.size + 1) 34 #[.int .u8 b0.kind, .int .u64 b0.bn, .int .u8 b0.br, .int .u64 b0.base, .int .u64 b0.slot, .int .u8 b0.node, .string (strOfNums b0.val), .slice Bv mv dv, .slice Bi mi di, .int .u8 b0.cmd.client, .int .u32 b0.cmd.seq, .int .u8 b0.cmd.kind, .string (strOfNums b0.cmd.key), .string (strOfNums b0.cmd.old), .string (strOfNums b0.cmd.new), .int .u8 b0.cmd.set, .int .u8 b0.code, .string (strOfNums b0.text)] (by simp)
  have hu1 : Upd (fun _ => False) w ((w.alloc (.cells #[.int .u8 a0.kind, .int .u64 a0.bn, .int .u8 a0.br, .int .u64 a0.base, .int .u64 a0.slot, .int .u8 a0.node, .string (strOfNums a0.val), .slice Av nv cv, .slice Ai ni ci, .int .u8 a0.cmd.client, .int .u32 a0.cmd.seq, .int .u8 a0.cmd.kind, .string (strOfNums a0.cmd.key), .string (strOfNums a0.cmd.old), .string (strOfNums a0.cmd.new), .int .u8 a0.cmd.set, .int .u8 a0.code, .string (strOfNums a0.text)] 34)).alloc (.cells #[.int .u8 b0.kind, .int .u64 b0.bn, .int .u8 b0.br, .int .u64 b0.base, .int .u64 b0.slot, .int .u8 b0.node, .string (strOfNums b0.val), .slice Bv mv dv, .slice Bi mi di, .int .u8 b0.cmd.client, .int .u32 b0.cmd.seq, .int .u8 b0.cmd.kind, .string (strOfNums b0.cmd.key), .string (strOfNums b0.cmd.old), .string (strOfNums b0.cmd.new), .int .u8 b0.cmd.set, .int .u8 b0.code, .string (strOfNums b0.text)] 34)) := ((Upd.refl _ _).alloc _).alloc _
  generalize (w.alloc (.cells #[.int .u8 a0.kind, .int .u64 a0.bn, .int .u8 a0.br, .int .u64 a0.base, .int .u64 a0.slot, .int .u8 a0.node, .string (strOfNums a0.val), .slice Av nv cv, .slice Ai ni ci, .int .u8 a0.cmd.client, .int .u32 a0.cmd.seq, .int .u8 a0.cmd.kind, .string (strOfNums a0.cmd.key), .string (strOfNums a0.cmd.old), .string (strOfNums a0.cmd.new), .int .u8 a0.cmd.set, .int .u8 a0.code, .string (strOfNums a0.text)] 34)).alloc (.cells #[.int .u8 b0.kind, .int .u64 b0.bn, .int .u8 b0.br, .int .u64 b0.base, .int .u64 b0.slot, .int .u8 b0.node, .string (strOfNums b0.val), .slice Bv mv dv, .slice Bi mi di, .int .u8 b0.cmd.client, .int .u32 b0.cmd.seq, .int .u8 b0.cmd.kind, .string (strOfNums b0.cmd.key), .string (strOfNums b0.cmd.old), .string (strOfNums b0.cmd.new), .int .u8 b0.cmd.set, .int .u8 b0.code, .string (strOfNums b0.text)] 34) = w1 at *
  have HA1 := Lib.hid ha1
  have HB1 := Lib.hid hb1
  have HU1 := Lib.hid hu1
  clear hb1 hu1
  go_wp2_with (first | (refine wpList_load_row rfl 34 (.tmp 3) (by rfl) w.heap.size (by rfl) 34 _ (0, 0) _ ha1 Try.underlying34 rfl (by kernel_rfl) ?_) | fail)
  clear ha1
  refine (HGA.out _ HU1.out).mono ?_
  rintro e w2 ⟨rfl, hu2⟩
  have HU2 := Lib.hid (HU1.out.trans hu2 (fun _ _ h => h))
  have HA2 := Lib.hid (HA1.out.upd hu2 id)
  have HB2 := Lib.hid (HB1.out.upd hu2 id)
  clear hu2
  have hl2 := load_msg HB2.out rfl
  simp [go_sem] at hl2
  go_wp2_with fail
  clear hl2
  refine (HGB.out _ HU2.out).mono ?_
  rintro e w3 ⟨rfl, hu3⟩
  have HU3 := Lib.hid (HU2.out.trans hu3 (fun _ _ h => h))
  have HA3 := Lib.hid (HA2.out.upd hu3 id)
  have HB3 := Lib.hid (HB2.out.upd hu3 id)
  clear hu3
  go_wp2_with fail
  refine (HWK.out _).mono ?_
  rintro e w4 ⟨rfl, hu4⟩
  have HU4 := Lib.hid (HU3.out.trans hu4 (fun _ _ h => h))
  clear hu4
  go_wp2_with fail
  go_ret
  exact ⟨rfl, HU4.out.below⟩
set_option maxRecDepth 100000 in
set_option maxHeartbeats 16000000 in
theorem msgBack_gs (a0 b0 : Ms) (ls : List Int) (w : World) {Av Ai Bv Bi : Option Addr} {nv cv ni ci mv dv mi di : Nat} (ha : RawM a0) (la : Lists w (fun k => k < w.heap.size) a0 (.slice Av nv cv) (.slice Ai ni ci)) (hb : RawM b0) (lb : Lists w (fun k => k < w.heap.size) b0 (.slice Bv mv dv) (.slice Bi mi di)) (hs : Byt ls) (hsl : ls.length ≤ maxLen) (hg : greatM a0 = false) (hh : greatM b0 = false) (hl : 5000 < ls.length) :
    Calls Try.prog 4 #[msV a0 (.slice Av nv cv) (.slice Ai ni ci), msV b0 (.slice Bv mv dv) (.slice Bi mi di), .string (strOfNums ls)] w fun e w' => e = .returned (.bool true) ∧ Below w.heap.size w w' := by
  have HWK := Lib.hid (fun wx => wakes18_true wx)
  have HGA := Lib.hid (fun (wx : World) (hu : Upd (fun _ => False) w wx) => great_any a0 ha (la.upd hu (fun _ _ h => h)))
  have HGB := Lib.hid (fun (wx : World) (hu : Upd (fun _ => False) w wx) => great_any b0 hb (lb.upd hu (fun _ _ h => h)))
  have HLA := Lib.hid la
  have HLB := Lib.hid lb
  have hz : (strOfNums ls).size = ls.length := strOfNums_size ls
  have HSB := Lib.hid hs
  unfold maxLen at hsl
  unfold msV msCells at HGA HGB ⊢
  rw [hg] at HGA
  rw [hh] at HGB
  have hl5 : (5000 : Int) < (ls.length : Int) := by omega
  clear ha la hb lb hs hg hh hl
  go_enter Try.func4, Try.ntmps4
  go_upto_region 1 with fail
  have ha1 := (Blk.new w 34 #[.int .u8 a0.kind, .int .u64 a0.bn, .int .u8 a0.br, .int .u64 a0.base, .int .u64 a0.slot, .int .u8 a0.node, .string (strOfNums a0.val), .slice Av nv cv, .slice Ai ni ci, .int .u8 a0.cmd.client, .int .u32 a0.cmd.seq, .int .u8 a0.cmd.kind, .string (strOfNums a0.cmd.key), .string (strOfNums a0.cmd.old), .string (strOfNums a0.cmd.new), .int .u8 a0.cmd.set, .int .u8 a0.code, .string (strOfNums a0.text)]).alloc (.cells #[.int .u8 b0.kind, .int .u64 b0.bn, .int .u8 b0.br, .int .u64 b0.base, .int .u64 b0.slot, .int .u8 b0.node, .string (strOfNums b0.val), .slice Bv mv dv, .slice Bi mi di, .int .u8 b0.cmd.client, .int .u32 b0.cmd.seq, .int .u8 b0.cmd.kind, .string (strOfNums b0.cmd.key), .string (strOfNums b0.cmd.old), .string (strOfNums b0.cmd.new), .int .u8 b0.cmd.set, .int .u8 b0.code, .string (strOfNums b0.text)] 34)
  have hb1 := Blk.newAt (w.alloc (.cells #[.int .u8 a0.kind, .int .u64 a0.bn, .int .u8 a0.br, .int .u64 a0.base, .int .u64 a0.slot, .int .u8 a0.node, .string (strOfNums a0.val), .slice Av nv cv, .slice Ai ni ci, .int .u8 a0.cmd.client, .int .u32 a0.cmd.seq, .int .u8 a0.cmd.kind, .string (strOfNums a0.cmd.key), .string (strOfNums a0.cmd.old), .string (strOfNums a0.cmd.new), .int .u8 a0.cmd.set, .int .u8 a0.code, .string (strOfNums a0.text)] 34)) (g := w.heap.size + 1) 34 #[.int .u8 b0.kind, .int .u64 b0.bn, .int .u8 b0.br, .int .u64 b0.base, .int .u64 b0.slot, .int .u8 b0.node, .string (strOfNums b0.val), .slice Bv mv dv, .slice Bi mi di, .int .u8 b0.cmd.client, .int .u32 b0.cmd.seq, .int .u8 b0.cmd.kind, .string (strOfNums b0.cmd.key), .string (strOfNums b0.cmd.old), .string (strOfNums b0.cmd.new), .int .u8 b0.cmd.set, .int .u8 b0.code, .string (strOfNums b0.text)] (by simp)
  have hu1 : Upd (fun _ => False) w ((w.alloc (.cells #[.int .u8 a0.kind, .int .u64 a0.bn, .int .u8 a0.br, .int .u64 a0.base, .int .u64 a0.slot, .int .u8 a0.node, .string (strOfNums a0.val), .slice Av nv cv, .slice Ai ni ci, .int .u8 a0.cmd.client, .int .u32 a0.cmd.seq, .int .u8 a0.cmd.kind, .string (strOfNums a0.cmd.key), .string (strOfNums a0.cmd.old), .string (strOfNums a0.cmd.new), .int .u8 a0.cmd.set, .int .u8 a0.code, .string (strOfNums a0.text)] 34)).alloc (.cells #[.int .u8 b0.kind, .int .u64 b0.bn, .int .u8 b0.br, .int .u64 b0.base, .int .u64 b0.slot, .int .u8 b0.node, .string (strOfNums b0.val), .slice Bv mv dv, .slice Bi mi di, .int .u8 b0.cmd.client, .int .u32 b0.cmd.seq, .int .u8 b0.cmd.kind, .string (strOfNums b0.cmd.key), .string (strOfNums b0.cmd.old), .string (strOfNums b0.cmd.new), .int .u8 b0.cmd.set, .int .u8 b0.code, .string (strOfNums b0.text)] 34)) := ((Upd.refl _ _).alloc _).alloc _
  generalize (w.alloc (.cells #[.int .u8 a0.kind, .int .u64 a0.bn, .int .u8 a0.br, .int .u64 a0.base, .int .u64 a0.slot, .int .u8 a0.node, .string (strOfNums a0.val), .slice Av nv cv, .slice Ai ni ci, .int .u8 a0.cmd.client, .int .u32 a0.cmd.seq, .int .u8 a0.cmd.kind, .string (strOfNums a0.cmd.key), .string (strOfNums a0.cmd.old), .string (strOfNums a0.cmd.new), .int .u8 a0.cmd.set, .int .u8 a0.code, .string (strOfNums a0.text)] 34)).alloc (.cells #[.int .u8 b0.kind, .int .u64 b0.bn, .int .u8 b0.br, .int .u64 b0.base, .int .u64 b0.slot, .int .u8 b0.node, .string (strOfNums b0.val), .slice Bv mv dv, .slice Bi mi di, .int .u8 b0.cmd.client, .int .u32 b0.cmd.seq, .int .u8 b0.cmd.kind, .string (strOfNums b0.cmd.key), .string (strOfNums b0.cmd.old), .string (strOfNums b0.cmd.new), .int .u8 b0.cmd.set, .int .u8 b0.code, .string (strOfNums b0.text)] 34) = w1 at *
  have HA1 := Lib.hid ha1
  have HB1 := Lib.hid hb1
  have HU1 := Lib.hid hu1
  clear hb1 hu1
  go_wp2_with (first | (refine wpList_load_row rfl 34 (.tmp 3) (by rfl) w.heap.size (by rfl) 34 _ (0, 0) _ ha1 Try.underlying34 rfl (by kernel_rfl) ?_) | fail)
  clear ha1
  refine (HGA.out _ HU1.out).mono ?_
  rintro e w2 ⟨rfl, hu2⟩
  have HU2 := Lib.hid (HU1.out.trans hu2 (fun _ _ h => h))
  have HA2 := Lib.hid (HA1.out.upd hu2 id)
  have HB2 := Lib.hid (HB1.out.upd hu2 id)
  clear hu2
  have hl2 := load_msg HB2.out rfl
  simp [go_sem] at hl2
  go_wp2_with fail
  clear hl2
  refine (HGB.out _ HU2.out).mono ?_
  rintro e w3 ⟨rfl, hu3⟩
  have HU3 := Lib.hid (HU2.out.trans hu3 (fun _ _ h => h))
  have HA3 := Lib.hid (HA2.out.upd hu3 id)
  have HB3 := Lib.hid (HB2.out.upd hu3 id)
  clear hu3
  go_wp2_with fail
  refine (HWK.out _).mono ?_
  rintro e w4 ⟨rfl, hu4⟩
  have HU4 := Lib.hid (HU3.out.trans hu4 (fun _ _ h => h))
  clear hu4
  go_wp2_with fail
  go_ret
  exact ⟨rfl, HU4.out.below⟩
set_option maxRecDepth 100000 in
set_option maxHeartbeats 16000000 in
theorem msgBack_p1 (a0 b0 : Ms) (ls : List Int) (w : World) {Av Ai Bv Bi : Option Addr} {nv cv ni ci mv dv mi di : Nat} (ha : RawM a0) (la : Lists w (fun k => k < w.heap.size) a0 (.slice Av nv cv) (.slice Ai ni ci)) (hb : RawM b0) (lb : Lists w (fun k => k < w.heap.size) b0 (.slice Bv mv dv) (.slice Bi mi di)) (hs : Byt ls) (hsl : ls.length ≤ maxLen) (hg : greatM a0 = false) (hh : greatM b0 = false) (hl : ls.length ≤ 5000) (hp : (putM a0).2 ≠ 0) :
    Calls Try.prog 4 #[msV a0 (.slice Av nv cv) (.slice Ai ni ci), msV b0 (.slice Bv mv dv) (.slice Bi mi di), .string (strOfNums ls)] w fun e w' => e = .returned (.bool true) ∧ Below w.heap.size w w' := by
  have HWK := Lib.hid (fun wx => wakes18_true wx)
  have HGA := Lib.hid (fun (wx : World) (hu : Upd (fun _ => False) w wx) => great_any a0 ha (la.upd hu (fun _ _ h => h)))
  have HGB := Lib.hid (fun (wx : World) (hu : Upd (fun _ => False) w wx) => great_any b0 hb (lb.upd hu (fun _ _ h => h)))
  have HLA := Lib.hid la
  have HLB := Lib.hid lb
  have hz : (strOfNums ls).size = ls.length := strOfNums_size ls
  have HSB := Lib.hid hs
  unfold maxLen at hsl
  unfold msV msCells at HGA HGB ⊢
  rw [hg] at HGA
  rw [hh] at HGB
  obtain ⟨a1, a2, a3⟩ := small_ok ha hg
  obtain ⟨b1, b2, b3⟩ := small_ok hb hh
  have hl5 : (ls.length : Int) ≤ 5000 := by omega
  have HPA := Lib.hid (fun (wx : World) (hu : Upd (fun _ => False) w wx) => mput_any a0 a1 a2 (la.upd hu (fun _ _ h => h)) a3)
  have HPB := Lib.hid (fun (wx : World) (hu : Upd (fun _ => False) w wx) => mput_any b0 b1 b2 (lb.upd hu (fun _ _ h => h)) b3)
  have HTS := Lib.hid (fun wx => mtake_any ls hs (by omega) wx)
  have HWA := Lib.hid a1
  have HWB := Lib.hid b1
  obtain ⟨X, hX⟩ : ∃ X, takeM ls = X := ⟨_, rfl⟩
  obtain ⟨M, E⟩ := X
  have HTE := Lib.hid hX
  have HTZ : Hid (E ≠ 0 → M = ms0 0) := fun h => by
    have := takeM_zero (s := ls) (by rw [hX]; exact h)
    rw [hX] at this
    exact this
  rw [hX] at HTS
  obtain ⟨XA, hXA⟩ : ∃ X, putM a0 = X := ⟨_, rfl⟩
  obtain ⟨XB, hXB⟩ : ∃ X, putM b0 = X := ⟨_, rfl⟩
  rw [hXA] at HPA hp
  rw [hXB] at HPB
  obtain ⟨L1, E1⟩ := XA
  obtain ⟨L2, E2⟩ := XB
  simp only at HPA HPB hp
  have h1 : (E1 == 0) = false := beq_eq_false_iff_ne.2 hp
  clear hXA hXB hp
  unfold msV msCells at HPA HPB
  clear ha la hb lb hs hg hh hl hX a1 a2 a3 b1 b2 b3 hsl
  go_enter Try.func4, Try.ntmps4
  go_upto_region 1 with fail
  have ha1 := (Blk.new w 34 #[.int .u8 a0.kind, .int .u64 a0.bn, .int .u8 a0.br, .int .u64 a0.base, .int .u64 a0.slot, .int .u8 a0.node, .string (strOfNums a0.val), .slice Av nv cv, .slice Ai ni ci, .int .u8 a0.cmd.client, .int .u32 a0.cmd.seq, .int .u8 a0.cmd.kind, .string (strOfNums a0.cmd.key), .string (strOfNums a0.cmd.old), .string (strOfNums a0.cmd.new), .int .u8 a0.cmd.set, .int .u8 a0.code, .string (strOfNums a0.text)]).alloc (.cells #[.int .u8 b0.kind, .int .u64 b0.bn, .int .u8 b0.br, .int .u64 b0.base, .int .u64 b0.slot, .int .u8 b0.node, .string (strOfNums b0.val), .slice Bv mv dv, .slice Bi mi di, .int .u8 b0.cmd.client, .int .u32 b0.cmd.seq, .int .u8 b0.cmd.kind, .string (strOfNums b0.cmd.key), .string (strOfNums b0.cmd.old), .string (strOfNums b0.cmd.new), .int .u8 b0.cmd.set, .int .u8 b0.code, .string (strOfNums b0.text)] 34)
  have hb1 := Blk.newAt (w.alloc (.cells #[.int .u8 a0.kind, .int .u64 a0.bn, .int .u8 a0.br, .int .u64 a0.base, .int .u64 a0.slot, .int .u8 a0.node, .string (strOfNums a0.val), .slice Av nv cv, .slice Ai ni ci, .int .u8 a0.cmd.client, .int .u32 a0.cmd.seq, .int .u8 a0.cmd.kind, .string (strOfNums a0.cmd.key), .string (strOfNums a0.cmd.old), .string (strOfNums a0.cmd.new), .int .u8 a0.cmd.set, .int .u8 a0.code, .string (strOfNums a0.text)] 34)) (g := w.heap.size + 1) 34 #[.int .u8 b0.kind, .int .u64 b0.bn, .int .u8 b0.br, .int .u64 b0.base, .int .u64 b0.slot, .int .u8 b0.node, .string (strOfNums b0.val), .slice Bv mv dv, .slice Bi mi di, .int .u8 b0.cmd.client, .int .u32 b0.cmd.seq, .int .u8 b0.cmd.kind, .string (strOfNums b0.cmd.key), .string (strOfNums b0.cmd.old), .string (strOfNums b0.cmd.new), .int .u8 b0.cmd.set, .int .u8 b0.code, .string (strOfNums b0.text)] (by simp)
  have hu1 : Upd (fun _ => False) w ((w.alloc (.cells #[.int .u8 a0.kind, .int .u64 a0.bn, .int .u8 a0.br, .int .u64 a0.base, .int .u64 a0.slot, .int .u8 a0.node, .string (strOfNums a0.val), .slice Av nv cv, .slice Ai ni ci, .int .u8 a0.cmd.client, .int .u32 a0.cmd.seq, .int .u8 a0.cmd.kind, .string (strOfNums a0.cmd.key), .string (strOfNums a0.cmd.old), .string (strOfNums a0.cmd.new), .int .u8 a0.cmd.set, .int .u8 a0.code, .string (strOfNums a0.text)] 34)).alloc (.cells #[.int .u8 b0.kind, .int .u64 b0.bn, .int .u8 b0.br, .int .u64 b0.base, .int .u64 b0.slot, .int .u8 b0.node, .string (strOfNums b0.val), .slice Bv mv dv, .slice Bi mi di, .int .u8 b0.cmd.client, .int .u32 b0.cmd.seq, .int .u8 b0.cmd.kind, .string (strOfNums b0.cmd.key), .string (strOfNums b0.cmd.old), .string (strOfNums b0.cmd.new), .int .u8 b0.cmd.set, .int .u8 b0.code, .string (strOfNums b0.text)] 34)) := ((Upd.refl _ _).alloc _).alloc _
  generalize (w.alloc (.cells #[.int .u8 a0.kind, .int .u64 a0.bn, .int .u8 a0.br, .int .u64 a0.base, .int .u64 a0.slot, .int .u8 a0.node, .string (strOfNums a0.val), .slice Av nv cv, .slice Ai ni ci, .int .u8 a0.cmd.client, .int .u32 a0.cmd.seq, .int .u8 a0.cmd.kind, .string (strOfNums a0.cmd.key), .string (strOfNums a0.cmd.old), .string (strOfNums a0.cmd.new), .int .u8 a0.cmd.set, .int .u8 a0.code, .string (strOfNums a0.text)] 34)).alloc (.cells #[.int .u8 b0.kind, .int .u64 b0.bn, .int .u8 b0.br, .int .u64 b0.base, .int .u64 b0.slot, .int .u8 b0.node, .string (strOfNums b0.val), .slice Bv mv dv, .slice Bi mi di, .int .u8 b0.cmd.client, .int .u32 b0.cmd.seq, .int .u8 b0.cmd.kind, .string (strOfNums b0.cmd.key), .string (strOfNums b0.cmd.old), .string (strOfNums b0.cmd.new), .int .u8 b0.cmd.set, .int .u8 b0.code, .string (strOfNums b0.text)] 34) = w1 at *
  have HA1 := Lib.hid ha1
  have HB1 := Lib.hid hb1
  have HU1 := Lib.hid hu1
  clear hb1 hu1
  go_wp2_with (first | (refine wpList_load_row rfl 34 (.tmp 3) (by rfl) w.heap.size (by rfl) 34 _ (0, 0) _ ha1 Try.underlying34 rfl (by kernel_rfl) ?_) | fail)
  clear ha1
  refine (HGA.out _ HU1.out).mono ?_
  rintro e w2 ⟨rfl, hu2⟩
  have HU2 := Lib.hid (HU1.out.trans hu2 (fun _ _ h => h))
  have HA2 := Lib.hid (HA1.out.upd hu2 id)
  have HB2 := Lib.hid (HB1.out.upd hu2 id)
  clear hu2
  have hl2 := load_msg HB2.out rfl
  simp [go_sem] at hl2
  go_wp2_with fail
  clear hl2
  refine (HGB.out _ HU2.out).mono ?_
  rintro e w3 ⟨rfl, hu3⟩
  have HU3 := Lib.hid (HU2.out.trans hu3 (fun _ _ h => h))
  have HA3 := Lib.hid (HA2.out.upd hu3 id)
  have HB3 := Lib.hid (HB2.out.upd hu3 id)
  clear hu3
  have hrow := HA3.out
  go_wp2_with (first | (refine wpList_load_row rfl 34 (.tmp 3) (by rfl) w.heap.size (by rfl) 34 _ (0, 0) _ hrow Try.underlying34 rfl (by kernel_rfl) ?_) | fail)
  clear hrow
  refine (HPA.out _ HU3.out).mono ?_
  rintro e w4 ⟨rfl, hu4⟩
  have HU4 := Lib.hid (HU3.out.trans hu4 (fun _ _ h => h))
  have HA4 := Lib.hid (HA3.out.upd hu4 id)
  have HB4 := Lib.hid (HB3.out.upd hu4 id)
  clear hu4
  have hrow := HB4.out
  go_wp2_with (first | (refine wpList_load_row rfl 34 (.tmp 4) (by rfl) (w.heap.size + 1) (by rfl) 34 _ (0, 0) _ hrow Try.underlying34 rfl (by kernel_rfl) ?_) | fail)
  clear hrow
  refine (HPB.out _ HU4.out).mono ?_
  rintro e w5 ⟨rfl, hu5⟩
  have HU5 := Lib.hid (HU4.out.trans hu5 (fun _ _ h => h))
  have HA5 := Lib.hid (HA4.out.upd hu5 id)
  have HB5 := Lib.hid (HB4.out.upd hu5 id)
  clear hu5
  go_wp2_with fail
  refine (HTS.out _).mono ?_
  rintro e wt1 ⟨mv1, mi1, rfl, hut1, hom⟩
  have HUT1 := Lib.hid (HU5.out.trans hut1 (fun _ _ h => h))
  obtain ⟨Mv, mnv, mcv, Mi, mni, mci, rfl, rfl⟩ := hom.lists.shape
  have HOM := Lib.hid hom
  clear hut1 hom
  have hmsv : msV (M, E).1 (.slice Mv mnv mcv) (.slice Mi mni mci) = .agg (msCells M (.slice Mv mnv mcv) (.slice Mi mni mci)) := rfl
  rw [hmsv]
  clear hmsv
  go_upto_region 16 with (first | (refine wpList_store_row rfl 34 (.tmp 17) (.tmp 101) (by rfl) wt1.heap.size (msCells M (.slice Mv mnv mcv) (.slice Mi mni mci)) (by rfl) (by rfl) 34 #[.int .u8 0, .int .u64 0, .int .u8 0, .int .u64 0, .int .u64 0, .int .u8 0, .string { data := #[] }, .slice none 0 0, .slice none 0 0, .int .u8 0, .int .u32 0, .int .u8 0, .string { data := #[] }, .string { data := #[] }, .string { data := #[] }, .int .u8 0, .int .u8 0, .string { data := #[] }] (Blk.new wt1 34 #[.int .u8 0, .int .u64 0, .int .u8 0, .int .u64 0, .int .u64 0, .int .u8 0, .string { data := #[] }, .slice none 0 0, .slice none 0 0, .int .u8 0, .int .u32 0, .int .u8 0, .string { data := #[] }, .string { data := #[] }, .string { data := #[] }, .int .u8 0, .int .u8 0, .string { data := #[] }]) (by kernel_rfl) rfl (msCells_one M Mv Mi mnv mcv mni mci) ?_) | fail)
  obtain ⟨gm, hgm⟩ : ∃ g, g = wt1.heap.size := ⟨_, rfl⟩
  obtain ⟨wt2, hwt2⟩ : ∃ w5, w5 = (wt1.alloc (.cells #[.int .u8 0, .int .u64 0, .int .u8 0, .int .u64 0, .int .u64 0, .int .u8 0, .string { data := #[] }, .slice none 0 0, .slice none 0 0, .int .u8 0, .int .u32 0, .int .u8 0, .string { data := #[] }, .string { data := #[] }, .string { data := #[] }, .int .u8 0, .int .u8 0, .string { data := #[] }] 34)).setRow wt1.heap.size (msCells M (.slice Mv mnv mcv) (.slice Mi mni mci)) := ⟨_, rfl⟩
  rw [← hwt2, ← hgm]
  have hbt2 : Blk wt2 gm 34 (msCells M (.slice Mv mnv mcv) (.slice Mi mni mci)) := by rw [hwt2, hgm]; exact Blk.setRow (Blk.new wt1 34 #[.int .u8 0, .int .u64 0, .int .u8 0, .int .u64 0, .int .u64 0, .int .u8 0, .string { data := #[] }, .slice none 0 0, .slice none 0 0, .int .u8 0, .int .u32 0, .int .u8 0, .string { data := #[] }, .string { data := #[] }, .string { data := #[] }, .int .u8 0, .int .u8 0, .string { data := #[] }])
  have hut2 : Upd (fun _ => False) wt1 wt2 := by rw [hwt2]; exact ((Upd.refl _ _).alloc _).setRow (.inr (Nat.le_refl _)) _
  have HM2 := Lib.hid hbt2
  have HUT2 := Lib.hid (HUT1.out.trans hut2 (fun _ _ h => h))
  have HOM2 := Lib.hid (HOM.out.upd hut2 (fun _ _ => id))
  clear hwt2 hgm hbt2 hut2
  by_cases hE : E = 0
  case neg =>
    have hM : M = ms0 0 := HTZ.out hE
    subst hM
    have hne : (E != 0) = true := bne_iff_ne.2 hE
    have HSZ := Lib.hid (rsame_any (ms0 0) (ms0 0) (wf_ms0 0 (by decide) (by decide)) (wf_ms0 0 (by decide) (by decide)) HOM2.out.lists (lists_nil wt2 (ms0 0) rfl rfl))
    rw [decide_eq_true rfl] at HSZ
    have hrow := HM2.out
    have HSZ2 : Hid (Calls Try.prog 11 #[.agg (msCells (ms0 0) (.slice Mv mnv mcv) (.slice Mi mni mci)), .agg #[.int .u8 0, .int .u64 0, .int .u8 0, .int .u64 0, .int .u64 0, .int .u8 0, .string { data := #[] }, .slice none 0 0, .slice none 0 0, .int .u8 0, .int .u32 0, .int .u8 0, .string { data := #[] }, .string { data := #[] }, .string { data := #[] }, .int .u8 0, .int .u8 0, .string { data := #[] }]] wt2 fun e w' => e = .returned (.bool true) ∧ Upd (fun _ => False) wt2 w') := HSZ.out
    clear hE HSZ
    go_wp2_with (first | (refine wpList_load_row rfl 34 (.tmp 17) (by rfl) gm (by rfl) 34 _ (0, 0) _ hrow Try.underlying34 rfl (by kernel_rfl) ?_) | fail)
    clear hrow
    refine HSZ2.out.mono ?_
    rintro e wt3 ⟨rfl, hut3⟩
    have HUT3 := Lib.hid (HUT2.out.trans hut3 (fun _ _ h => h))
    clear hut3
    go_wp2_with fail
    refine (HWK.out _).mono ?_
    rintro e wt4 ⟨rfl, huT4⟩
    have HUT4 := Lib.hid (HUT3.out.trans huT4 (fun _ _ h => h))
    clear huT4
    go_wp2_with fail
    go_ret
    exact ⟨rfl, HUT4.out.below⟩
  case pos =>
    subst hE
    obtain ⟨q1, q2, q3, q4, q5⟩ := take_put HSB.out HTE.out
    have q7 := may_txt q2
    have HPM := Lib.hid (mput_any M q1 q7 HOM2.out.lists ⟨q4, q5⟩)
    rw [q3] at HPM
    have HCM := Lib.hid (fun (wx : World) (hu : Upd (fun _ => False) wt2 wx) => mcheck_any M q1 q7 (HOM2.out.lists.upd hu (fun _ _ h => h)))
    have q8 : mayE M = 0 := by unfold mayE; rw [q2]; rfl
    rw [q8] at HCM
    have HPM2 : Hid (Calls Try.prog 7 #[.agg (msCells M (.slice Mv mnv mcv) (.slice Mi mni mci))] wt2 fun e w' => e = .returned (.tuple #[.string (strOfNums ls), .int .i64 0]) ∧ Upd (fun _ => False) wt2 w') := HPM.out
    unfold msV msCells at HCM
    have hrow := HM2.out
    clear q1 q2 q3 q4 q5 q7 q8 HPM
    go_wp2_with (first | (refine wpList_load_row rfl 34 (.tmp 17) (by rfl) gm (by rfl) 34 _ (0, 0) _ hrow Try.underlying34 rfl (by kernel_rfl) ?_) | fail)
    clear hrow
    refine HPM2.out.mono ?_
    rintro e wt3 ⟨rfl, hut3⟩
    have HUT23 := Lib.hid hut3
    have HUT3 := Lib.hid (HUT2.out.trans hut3 (fun _ _ h => h))
    have hm3 := HM2.out.upd hut3 id
    unfold msCells at hm3
    have hlm := load_msg hm3 rfl
    simp [go_sem] at hlm
    clear hut3 hm3
    go_wp2_with fail
    clear hlm
    refine (HCM.out _ HUT23.out).mono ?_
    rintro e wt4 ⟨rfl, hut4⟩
    have HUT4 := Lib.hid (HUT3.out.trans hut4 (fun _ _ h => h))
    clear hut4
    go_wp2_with fail
    refine (HWK.out _).mono ?_
    rintro e wt5 ⟨rfl, huT5⟩
    have HUT5 := Lib.hid (HUT4.out.trans huT5 (fun _ _ h => h))
    clear huT5
    go_wp2_with fail
    go_ret
    exact ⟨rfl, HUT5.out.below⟩
set_option maxRecDepth 100000 in
set_option maxHeartbeats 16000000 in
theorem msgBack_p2 (a0 b0 : Ms) (ls : List Int) (w : World) {Av Ai Bv Bi : Option Addr} {nv cv ni ci mv dv mi di : Nat} (ha : RawM a0) (la : Lists w (fun k => k < w.heap.size) a0 (.slice Av nv cv) (.slice Ai ni ci)) (hb : RawM b0) (lb : Lists w (fun k => k < w.heap.size) b0 (.slice Bv mv dv) (.slice Bi mi di)) (hs : Byt ls) (hsl : ls.length ≤ maxLen) (hg : greatM a0 = false) (hh : greatM b0 = false) (hl : ls.length ≤ 5000) (hp : (putM a0).2 = 0) (hp2 : (putM b0).2 ≠ 0) :
    Calls Try.prog 4 #[msV a0 (.slice Av nv cv) (.slice Ai ni ci), msV b0 (.slice Bv mv dv) (.slice Bi mi di), .string (strOfNums ls)] w fun e w' => e = .returned (.bool true) ∧ Below w.heap.size w w' := by
  have HWK := Lib.hid (fun wx => wakes18_true wx)
  have HGA := Lib.hid (fun (wx : World) (hu : Upd (fun _ => False) w wx) => great_any a0 ha (la.upd hu (fun _ _ h => h)))
  have HGB := Lib.hid (fun (wx : World) (hu : Upd (fun _ => False) w wx) => great_any b0 hb (lb.upd hu (fun _ _ h => h)))
  have HLA := Lib.hid la
  have HLB := Lib.hid lb
  have hz : (strOfNums ls).size = ls.length := strOfNums_size ls
  have HSB := Lib.hid hs
  unfold maxLen at hsl
  unfold msV msCells at HGA HGB ⊢
  rw [hg] at HGA
  rw [hh] at HGB
  obtain ⟨a1, a2, a3⟩ := small_ok ha hg
  obtain ⟨b1, b2, b3⟩ := small_ok hb hh
  have hl5 : (ls.length : Int) ≤ 5000 := by omega
  have HPA := Lib.hid (fun (wx : World) (hu : Upd (fun _ => False) w wx) => mput_any a0 a1 a2 (la.upd hu (fun _ _ h => h)) a3)
  have HPB := Lib.hid (fun (wx : World) (hu : Upd (fun _ => False) w wx) => mput_any b0 b1 b2 (lb.upd hu (fun _ _ h => h)) b3)
  have HTS := Lib.hid (fun wx => mtake_any ls hs (by omega) wx)
  have HWA := Lib.hid a1
  have HWB := Lib.hid b1
  obtain ⟨X, hX⟩ : ∃ X, takeM ls = X := ⟨_, rfl⟩
  obtain ⟨M, E⟩ := X
  have HTE := Lib.hid hX
  have HTZ : Hid (E ≠ 0 → M = ms0 0) := fun h => by
    have := takeM_zero (s := ls) (by rw [hX]; exact h)
    rw [hX] at this
    exact this
  rw [hX] at HTS
  obtain ⟨o1, o2, o3⟩ := putM_err hp
  have o4 := frameB_byt _ (insM_byt a1)
  have o5 : (frameB (insM a0)).length ≤ 100000 := by
    have := (numE_len (insM a0).length).2
    simp only [frameB, List.length_append, sumB_len]
    omega
  have HTX := Lib.hid (fun wx => mtake_any (frameB (insM a0)) o4 (by omega) wx)
  have HTD := Lib.hid (fun wx => mtake_any (frameB (insM a0)).dropLast (fun x hx => o4 x (List.dropLast_subset _ hx)) (by rw [List.length_dropLast]; omega) wx)
  have HTM := Lib.hid (fun wx => mtake_any (frameB (insM a0) ++ [0]) (o4.app (byt_one (by decide))) (by rw [List.length_append]; simp; omega) wx)
  rw [takeM_put a1 o1 o2] at HTX
  rw [takeM_short o2] at HTD
  rw [takeM_more o2] at HTM
  rw [o3] at HPA
  simp only at HPA
  obtain ⟨XB, hXB⟩ : ∃ X, putM b0 = X := ⟨_, rfl⟩
  rw [hXB] at HPB hp2
  obtain ⟨L2, E2⟩ := XB
  simp only at HPB hp2
  have h2 : (E2 == 0) = false := beq_eq_false_iff_ne.2 hp2
  have o6 : frameB (insM a0) ≠ [] := by
    have := (numE_len (insM a0).length).1
    intro h
    have h2 := congrArg List.length h
    simp only [frameB, List.length_append, List.length_nil] at h2
    omega
  have o7 : 1 ≤ (frameB (insM a0)).length := by
    rcases hq : frameB (insM a0) with _ | ⟨x, y⟩
    · exact absurd hq o6
    · simp
  have o8 := (strOf_ne _ o6).1
  have o9 := (strOf_ne _ o6).2
  have od := strOf_drop (frameB (insM a0))
  have oz := strOf_zero (frameB (insM a0))
  have os : (strOfNums (frameB (insM a0))).size = (frameB (insM a0)).length := strOfNums_size _
  clear o1 o2 o3 o4 o6
  generalize frameB (insM a0) = FA at *
  clear hXB hp2 hp
  unfold msV msCells at HPA HPB
  clear ha la hb lb hs hg hh hl hX a1 a2 a3 b1 b2 b3 hsl
  go_enter Try.func4, Try.ntmps4
  go_upto_region 1 with fail
  have ha1 := (Blk.new w 34 #[.int .u8 a0.kind, .int .u64 a0.bn, .int .u8 a0.br, .int .u64 a0.base, .int .u64 a0.slot, .int .u8 a0.node, .string (strOfNums a0.val), .slice Av nv cv, .slice Ai ni ci, .int .u8 a0.cmd.client, .int .u32 a0.cmd.seq, .int .u8 a0.cmd.kind, .string (strOfNums a0.cmd.key), .string (strOfNums a0.cmd.old), .string (strOfNums a0.cmd.new), .int .u8 a0.cmd.set, .int .u8 a0.code, .string (strOfNums a0.text)]).alloc (.cells #[.int .u8 b0.kind, .int .u64 b0.bn, .int .u8 b0.br, .int .u64 b0.base, .int .u64 b0.slot, .int .u8 b0.node, .string (strOfNums b0.val), .slice Bv mv dv, .slice Bi mi di, .int .u8 b0.cmd.client, .int .u32 b0.cmd.seq, .int .u8 b0.cmd.kind, .string (strOfNums b0.cmd.key), .string (strOfNums b0.cmd.old), .string (strOfNums b0.cmd.new), .int .u8 b0.cmd.set, .int .u8 b0.code, .string (strOfNums b0.text)] 34)
  have hb1 := Blk.newAt (w.alloc (.cells #[.int .u8 a0.kind, .int .u64 a0.bn, .int .u8 a0.br, .int .u64 a0.base, .int .u64 a0.slot, .int .u8 a0.node, .string (strOfNums a0.val), .slice Av nv cv, .slice Ai ni ci, .int .u8 a0.cmd.client, .int .u32 a0.cmd.seq, .int .u8 a0.cmd.kind, .string (strOfNums a0.cmd.key), .string (strOfNums a0.cmd.old), .string (strOfNums a0.cmd.new), .int .u8 a0.cmd.set, .int .u8 a0.code, .string (strOfNums a0.text)] 34)) (g := w.heap.size + 1) 34 #[.int .u8 b0.kind, .int .u64 b0.bn, .int .u8 b0.br, .int .u64 b0.base, .int .u64 b0.slot, .int .u8 b0.node, .string (strOfNums b0.val), .slice Bv mv dv, .slice Bi mi di, .int .u8 b0.cmd.client, .int .u32 b0.cmd.seq, .int .u8 b0.cmd.kind, .string (strOfNums b0.cmd.key), .string (strOfNums b0.cmd.old), .string (strOfNums b0.cmd.new), .int .u8 b0.cmd.set, .int .u8 b0.code, .string (strOfNums b0.text)] (by simp)
  have hu1 : Upd (fun _ => False) w ((w.alloc (.cells #[.int .u8 a0.kind, .int .u64 a0.bn, .int .u8 a0.br, .int .u64 a0.base, .int .u64 a0.slot, .int .u8 a0.node, .string (strOfNums a0.val), .slice Av nv cv, .slice Ai ni ci, .int .u8 a0.cmd.client, .int .u32 a0.cmd.seq, .int .u8 a0.cmd.kind, .string (strOfNums a0.cmd.key), .string (strOfNums a0.cmd.old), .string (strOfNums a0.cmd.new), .int .u8 a0.cmd.set, .int .u8 a0.code, .string (strOfNums a0.text)] 34)).alloc (.cells #[.int .u8 b0.kind, .int .u64 b0.bn, .int .u8 b0.br, .int .u64 b0.base, .int .u64 b0.slot, .int .u8 b0.node, .string (strOfNums b0.val), .slice Bv mv dv, .slice Bi mi di, .int .u8 b0.cmd.client, .int .u32 b0.cmd.seq, .int .u8 b0.cmd.kind, .string (strOfNums b0.cmd.key), .string (strOfNums b0.cmd.old), .string (strOfNums b0.cmd.new), .int .u8 b0.cmd.set, .int .u8 b0.code, .string (strOfNums b0.text)] 34)) := ((Upd.refl _ _).alloc _).alloc _
  generalize (w.alloc (.cells #[.int .u8 a0.kind, .int .u64 a0.bn, .int .u8 a0.br, .int .u64 a0.base, .int .u64 a0.slot, .int .u8 a0.node, .string (strOfNums a0.val), .slice Av nv cv, .slice Ai ni ci, .int .u8 a0.cmd.client, .int .u32 a0.cmd.seq, .int .u8 a0.cmd.kind, .string (strOfNums a0.cmd.key), .string (strOfNums a0.cmd.old), .string (strOfNums a0.cmd.new), .int .u8 a0.cmd.set, .int .u8 a0.code, .string (strOfNums a0.text)] 34)).alloc (.cells #[.int .u8 b0.kind, .int .u64 b0.bn, .int .u8 b0.br, .int .u64 b0.base, .int .u64 b0.slot, .int .u8 b0.node, .string (strOfNums b0.val), .slice Bv mv dv, .slice Bi mi di, .int .u8 b0.cmd.client, .int .u32 b0.cmd.seq, .int .u8 b0.cmd.kind, .string (strOfNums b0.cmd.key), .string (strOfNums b0.cmd.old), .string (strOfNums b0.cmd.new), .int .u8 b0.cmd.set, .int .u8 b0.code, .string (strOfNums b0.text)] 34) = w1 at *
  have HA1 := Lib.hid ha1
  have HB1 := Lib.hid hb1
  have HU1 := Lib.hid hu1
  clear hb1 hu1
  go_wp2_with (first | (refine wpList_load_row rfl 34 (.tmp 3) (by rfl) w.heap.size (by rfl) 34 _ (0, 0) _ ha1 Try.underlying34 rfl (by kernel_rfl) ?_) | fail)
  clear ha1
  refine (HGA.out _ HU1.out).mono ?_
  rintro e w2 ⟨rfl, hu2⟩
  have HU2 := Lib.hid (HU1.out.trans hu2 (fun _ _ h => h))
  have HA2 := Lib.hid (HA1.out.upd hu2 id)
  have HB2 := Lib.hid (HB1.out.upd hu2 id)
  clear hu2
  have hl2 := load_msg HB2.out rfl
  simp [go_sem] at hl2
  go_wp2_with fail
  clear hl2
  refine (HGB.out _ HU2.out).mono ?_
  rintro e w3 ⟨rfl, hu3⟩
  have HU3 := Lib.hid (HU2.out.trans hu3 (fun _ _ h => h))
  have HA3 := Lib.hid (HA2.out.upd hu3 id)
  have HB3 := Lib.hid (HB2.out.upd hu3 id)
  clear hu3
  have hrow := HA3.out
  go_wp2_with (first | (refine wpList_load_row rfl 34 (.tmp 3) (by rfl) w.heap.size (by rfl) 34 _ (0, 0) _ hrow Try.underlying34 rfl (by kernel_rfl) ?_) | fail)
  clear hrow
  refine (HPA.out _ HU3.out).mono ?_
  rintro e w4 ⟨rfl, hu4⟩
  have HU4 := Lib.hid (HU3.out.trans hu4 (fun _ _ h => h))
  have HA4 := Lib.hid (HA3.out.upd hu4 id)
  have HB4 := Lib.hid (HB3.out.upd hu4 id)
  clear hu4
  have hrow := HB4.out
  go_wp2_with (first | (refine wpList_load_row rfl 34 (.tmp 4) (by rfl) (w.heap.size + 1) (by rfl) 34 _ (0, 0) _ hrow Try.underlying34 rfl (by kernel_rfl) ?_) | fail)
  clear hrow
  refine (HPB.out _ HU4.out).mono ?_
  rintro e w5 ⟨rfl, hu5⟩
  have HU5 := Lib.hid (HU4.out.trans hu5 (fun _ _ h => h))
  have HA5 := Lib.hid (HA4.out.upd hu5 id)
  have HB5 := Lib.hid (HB4.out.upd hu5 id)
  clear hu5
  go_wp2_with fail
  refine (HTX.out _).mono ?_
  rintro e wm1 ⟨kv, ki, rfl, hum1, hok⟩
  have HUM1 := Lib.hid (HU5.out.trans hum1 (fun _ _ h => h))
  have HAM1 := Lib.hid (HA5.out.upd hum1 id)
  obtain ⟨Kv, knv, kcv, Ki, kni, kci, rfl, rfl⟩ := hok.lists.shape
  have HOK := Lib.hid hok
  clear hum1 hok
  have hmsv : msV (a0, (0 : Int)).1 (.slice Kv knv kcv) (.slice Ki kni kci) = .agg (msCells a0 (.slice Kv knv kcv) (.slice Ki kni kci)) := rfl
  rw [hmsv]
  clear hmsv
  go_upto_region 11 with (first | (refine wpList_store_row rfl 34 (.tmp 11) (.tmp 65) (by rfl) wm1.heap.size (msCells a0 (.slice Kv knv kcv) (.slice Ki kni kci)) (by rfl) (by rfl) 34 #[.int .u8 0, .int .u64 0, .int .u8 0, .int .u64 0, .int .u64 0, .int .u8 0, .string { data := #[] }, .slice none 0 0, .slice none 0 0, .int .u8 0, .int .u32 0, .int .u8 0, .string { data := #[] }, .string { data := #[] }, .string { data := #[] }, .int .u8 0, .int .u8 0, .string { data := #[] }] (Blk.new wm1 34 #[.int .u8 0, .int .u64 0, .int .u8 0, .int .u64 0, .int .u64 0, .int .u8 0, .string { data := #[] }, .slice none 0 0, .slice none 0 0, .int .u8 0, .int .u32 0, .int .u8 0, .string { data := #[] }, .string { data := #[] }, .string { data := #[] }, .int .u8 0, .int .u8 0, .string { data := #[] }]) (by kernel_rfl) rfl (msCells_one a0 Kv Ki knv kcv kni kci) ?_) | fail)
  obtain ⟨gk, hgk⟩ : ∃ g, g = wm1.heap.size := ⟨_, rfl⟩
  obtain ⟨wm2, hwm2⟩ : ∃ w5, w5 = (wm1.alloc (.cells #[.int .u8 0, .int .u64 0, .int .u8 0, .int .u64 0, .int .u64 0, .int .u8 0, .string { data := #[] }, .slice none 0 0, .slice none 0 0, .int .u8 0, .int .u32 0, .int .u8 0, .string { data := #[] }, .string { data := #[] }, .string { data := #[] }, .int .u8 0, .int .u8 0, .string { data := #[] }] 34)).setRow wm1.heap.size (msCells a0 (.slice Kv knv kcv) (.slice Ki kni kci)) := ⟨_, rfl⟩
  rw [← hwm2, ← hgk]
  have hbm2 : Blk wm2 gk 34 (msCells a0 (.slice Kv knv kcv) (.slice Ki kni kci)) := by rw [hwm2, hgk]; exact Blk.setRow (Blk.new wm1 34 #[.int .u8 0, .int .u64 0, .int .u8 0, .int .u64 0, .int .u64 0, .int .u8 0, .string { data := #[] }, .slice none 0 0, .slice none 0 0, .int .u8 0, .int .u32 0, .int .u8 0, .string { data := #[] }, .string { data := #[] }, .string { data := #[] }, .int .u8 0, .int .u8 0, .string { data := #[] }])
  have hum2 : Upd (fun _ => False) wm1 wm2 := by rw [hwm2]; exact ((Upd.refl _ _).alloc _).setRow (.inr (Nat.le_refl _)) _
  have HK2 := Lib.hid hbm2
  have HUM2 := Lib.hid (HUM1.out.trans hum2 (fun _ _ h => h))
  have HAM2 := Lib.hid (HAM1.out.upd hum2 id)
  have HOK2 := Lib.hid (HOK.out.upd hum2 (fun _ _ => id))
  clear hwm2 hgk hbm2 hum2
  go_wp2_with fail
  refine (HTD.out _).mono ?_
  rintro e wm3 ⟨zv, zi, rfl, hum3, hoz⟩
  have HUM23 := Lib.hid hum3
  have HUM3 := Lib.hid (HUM2.out.trans hum3 (fun _ _ h => h))
  obtain ⟨Zv, znv, zcv, Zi, zni, zci, rfl, rfl⟩ := hoz.lists.shape
  clear hum3 hoz
  have hmsv : msV (ms0 0, (3 : Int)).1 (.slice Zv znv zcv) (.slice Zi zni zci) = .agg (msCells (ms0 0) (.slice Zv znv zcv) (.slice Zi zni zci)) := rfl
  rw [hmsv]
  clear hmsv
  go_upto_region 12 with (first | (refine wpList_store_row rfl 34 (.tmp 13) (.tmp 74) (by rfl) wm3.heap.size (msCells (ms0 0) (.slice Zv znv zcv) (.slice Zi zni zci)) (by rfl) (by rfl) 34 #[.int .u8 0, .int .u64 0, .int .u8 0, .int .u64 0, .int .u64 0, .int .u8 0, .string { data := #[] }, .slice none 0 0, .slice none 0 0, .int .u8 0, .int .u32 0, .int .u8 0, .string { data := #[] }, .string { data := #[] }, .string { data := #[] }, .int .u8 0, .int .u8 0, .string { data := #[] }] (Blk.new wm3 34 #[.int .u8 0, .int .u64 0, .int .u8 0, .int .u64 0, .int .u64 0, .int .u8 0, .string { data := #[] }, .slice none 0 0, .slice none 0 0, .int .u8 0, .int .u32 0, .int .u8 0, .string { data := #[] }, .string { data := #[] }, .string { data := #[] }, .int .u8 0, .int .u8 0, .string { data := #[] }]) (by kernel_rfl) rfl (msCells_one (ms0 0) Zv Zi znv zcv zni zci) ?_) | fail)
  have hum4 : Upd (fun _ => False) wm3 ((wm3.alloc (.cells #[.int .u8 0, .int .u64 0, .int .u8 0, .int .u64 0, .int .u64 0, .int .u8 0, .string { data := #[] }, .slice none 0 0, .slice none 0 0, .int .u8 0, .int .u32 0, .int .u8 0, .string { data := #[] }, .string { data := #[] }, .string { data := #[] }, .int .u8 0, .int .u8 0, .string { data := #[] }] 34)).setRow wm3.heap.size (msCells (ms0 0) (.slice Zv znv zcv) (.slice Zi zni zci))) := ((Upd.refl _ _).alloc _).setRow (.inr (Nat.le_refl _)) _
  generalize (wm3.alloc (.cells #[.int .u8 0, .int .u64 0, .int .u8 0, .int .u64 0, .int .u64 0, .int .u8 0, .string { data := #[] }, .slice none 0 0, .slice none 0 0, .int .u8 0, .int .u32 0, .int .u8 0, .string { data := #[] }, .string { data := #[] }, .string { data := #[] }, .int .u8 0, .int .u8 0, .string { data := #[] }] 34)).setRow wm3.heap.size (msCells (ms0 0) (.slice Zv znv zcv) (.slice Zi zni zci)) = wm4 at *
  have HUM24 := Lib.hid (HUM23.out.trans hum4 (fun _ _ h => h))
  have HUM4 := Lib.hid (HUM3.out.trans hum4 (fun _ _ h => h))
  clear hum4
  go_wp2_with fail
  refine (HTM.out _).mono ?_
  rintro e wm5 ⟨yv, yi, rfl, hum5, hoy⟩
  have HUM25 := Lib.hid (HUM24.out.trans hum5 (fun _ _ h => h))
  have HUM5 := Lib.hid (HUM4.out.trans hum5 (fun _ _ h => h))
  obtain ⟨Yv, ynv, ycv, Yi, yni, yci, rfl, rfl⟩ := hoy.lists.shape
  clear hum5 hoy
  have hmsv : msV (ms0 0, (4 : Int)).1 (.slice Yv ynv ycv) (.slice Yi yni yci) = .agg (msCells (ms0 0) (.slice Yv ynv ycv) (.slice Yi yni yci)) := rfl
  rw [hmsv]
  clear hmsv
  go_upto_region 13 with (first | (refine wpList_store_row rfl 34 (.tmp 15) (.tmp 80) (by rfl) wm5.heap.size (msCells (ms0 0) (.slice Yv ynv ycv) (.slice Yi yni yci)) (by rfl) (by rfl) 34 #[.int .u8 0, .int .u64 0, .int .u8 0, .int .u64 0, .int .u64 0, .int .u8 0, .string { data := #[] }, .slice none 0 0, .slice none 0 0, .int .u8 0, .int .u32 0, .int .u8 0, .string { data := #[] }, .string { data := #[] }, .string { data := #[] }, .int .u8 0, .int .u8 0, .string { data := #[] }] (Blk.new wm5 34 #[.int .u8 0, .int .u64 0, .int .u8 0, .int .u64 0, .int .u64 0, .int .u8 0, .string { data := #[] }, .slice none 0 0, .slice none 0 0, .int .u8 0, .int .u32 0, .int .u8 0, .string { data := #[] }, .string { data := #[] }, .string { data := #[] }, .int .u8 0, .int .u8 0, .string { data := #[] }]) (by kernel_rfl) rfl (msCells_one (ms0 0) Yv Yi ynv ycv yni yci) ?_) | fail)
  have hum6 : Upd (fun _ => False) wm5 ((wm5.alloc (.cells #[.int .u8 0, .int .u64 0, .int .u8 0, .int .u64 0, .int .u64 0, .int .u8 0, .string { data := #[] }, .slice none 0 0, .slice none 0 0, .int .u8 0, .int .u32 0, .int .u8 0, .string { data := #[] }, .string { data := #[] }, .string { data := #[] }, .int .u8 0, .int .u8 0, .string { data := #[] }] 34)).setRow wm5.heap.size (msCells (ms0 0) (.slice Yv ynv ycv) (.slice Yi yni yci))) := ((Upd.refl _ _).alloc _).setRow (.inr (Nat.le_refl _)) _
  generalize (wm5.alloc (.cells #[.int .u8 0, .int .u64 0, .int .u8 0, .int .u64 0, .int .u64 0, .int .u8 0, .string { data := #[] }, .slice none 0 0, .slice none 0 0, .int .u8 0, .int .u32 0, .int .u8 0, .string { data := #[] }, .string { data := #[] }, .string { data := #[] }, .int .u8 0, .int .u8 0, .string { data := #[] }] 34)).setRow wm5.heap.size (msCells (ms0 0) (.slice Yv ynv ycv) (.slice Yi yni yci)) = wm6 at *
  have HUM26 := Lib.hid (HUM25.out.trans hum6 (fun _ _ h => h))
  have HUM6 := Lib.hid (HUM5.out.trans hum6 (fun _ _ h => h))
  clear hum6
  have HK6 := Lib.hid (HK2.out.upd HUM26.out id)
  have HA6 := Lib.hid (HAM2.out.upd HUM26.out id)
  have HSS := Lib.hid (rsame_any a0 a0 HWA.out HWA.out (HOK2.out.lists.upd HUM26.out (fun _ _ h => h)) (HLA.out.upd HUM6.out (fun _ _ h => h)))
  rw [decide_eq_true rfl] at HSS
  have k1 := HK6.out
  have k2 := HA6.out
  unfold msV msCells at HSS
  unfold msCells at k1
  have l1 := load_msg k1 rfl
  simp [go_sem] at l1
  have l2 := load_msg k2 rfl
  simp [go_sem] at l2
  clear k1 k2
  go_wp2_with fail
  clear l1 l2
  refine HSS.out.mono ?_
  rintro e wm7 ⟨rfl, hum7⟩
  have HUM7 := Lib.hid (HUM6.out.trans hum7 (fun _ _ h => h))
  clear hum7 HSS HK6 HA6 HK2 HAM1 HAM2 HOK HOK2 HUM1 HUM2 HUM3 HUM4 HUM5 HUM6 HUM23 HUM24 HUM25 HUM26
  go_wp2_with fail
  refine (HTS.out _).mono ?_
  rintro e wt1 ⟨mv1, mi1, rfl, hut1, hom⟩
  have HUT1 := Lib.hid (HUM7.out.trans hut1 (fun _ _ h => h))
  obtain ⟨Mv, mnv, mcv, Mi, mni, mci, rfl, rfl⟩ := hom.lists.shape
  have HOM := Lib.hid hom
  clear hut1 hom
  have hmsv : msV (M, E).1 (.slice Mv mnv mcv) (.slice Mi mni mci) = .agg (msCells M (.slice Mv mnv mcv) (.slice Mi mni mci)) := rfl
  rw [hmsv]
  clear hmsv
  go_upto_region 16 with (first | (refine wpList_store_row rfl 34 (.tmp 17) (.tmp 101) (by rfl) wt1.heap.size (msCells M (.slice Mv mnv mcv) (.slice Mi mni mci)) (by rfl) (by rfl) 34 #[.int .u8 0, .int .u64 0, .int .u8 0, .int .u64 0, .int .u64 0, .int .u8 0, .string { data := #[] }, .slice none 0 0, .slice none 0 0, .int .u8 0, .int .u32 0, .int .u8 0, .string { data := #[] }, .string { data := #[] }, .string { data := #[] }, .int .u8 0, .int .u8 0, .string { data := #[] }] (Blk.new wt1 34 #[.int .u8 0, .int .u64 0, .int .u8 0, .int .u64 0, .int .u64 0, .int .u8 0, .string { data := #[] }, .slice none 0 0, .slice none 0 0, .int .u8 0, .int .u32 0, .int .u8 0, .string { data := #[] }, .string { data := #[] }, .string { data := #[] }, .int .u8 0, .int .u8 0, .string { data := #[] }]) (by kernel_rfl) rfl (msCells_one M Mv Mi mnv mcv mni mci) ?_) | fail)
  obtain ⟨gm, hgm⟩ : ∃ g, g = wt1.heap.size := ⟨_, rfl⟩
  obtain ⟨wt2, hwt2⟩ : ∃ w5, w5 = (wt1.alloc (.cells #[.int .u8 0, .int .u64 0, .int .u8 0, .int .u64 0, .int .u64 0, .int .u8 0, .string { data := #[] }, .slice none 0 0, .slice none 0 0, .int .u8 0, .int .u32 0, .int .u8 0, .string { data := #[] }, .string { data := #[] }, .string { data := #[] }, .int .u8 0, .int .u8 0, .string { data := #[] }] 34)).setRow wt1.heap.size (msCells M (.slice Mv mnv mcv) (.slice Mi mni mci)) := ⟨_, rfl⟩
  rw [← hwt2, ← hgm]
  have hbt2 : Blk wt2 gm 34 (msCells M (.slice Mv mnv mcv) (.slice Mi mni mci)) := by rw [hwt2, hgm]; exact Blk.setRow (Blk.new wt1 34 #[.int .u8 0, .int .u64 0, .int .u8 0, .int .u64 0, .int .u64 0, .int .u8 0, .string { data := #[] }, .slice none 0 0, .slice none 0 0, .int .u8 0, .int .u32 0, .int .u8 0, .string { data := #[] }, .string { data := #[] }, .string { data := #[] }, .int .u8 0, .int .u8 0, .string { data := #[] }])
  have hut2 : Upd (fun _ => False) wt1 wt2 := by rw [hwt2]; exact ((Upd.refl _ _).alloc _).setRow (.inr (Nat.le_refl _)) _
  have HM2 := Lib.hid hbt2
  have HUT2 := Lib.hid (HUT1.out.trans hut2 (fun _ _ h => h))
  have HOM2 := Lib.hid (HOM.out.upd hut2 (fun _ _ => id))
  clear hwt2 hgm hbt2 hut2
  by_cases hE : E = 0
  case neg =>
    have hM : M = ms0 0 := HTZ.out hE
    subst hM
    have hne : (E != 0) = true := bne_iff_ne.2 hE
    have HSZ := Lib.hid (rsame_any (ms0 0) (ms0 0) (wf_ms0 0 (by decide) (by decide)) (wf_ms0 0 (by decide) (by decide)) HOM2.out.lists (lists_nil wt2 (ms0 0) rfl rfl))
    rw [decide_eq_true rfl] at HSZ
    have hrow := HM2.out
    have HSZ2 : Hid (Calls Try.prog 11 #[.agg (msCells (ms0 0) (.slice Mv mnv mcv) (.slice Mi mni mci)), .agg #[.int .u8 0, .int .u64 0, .int .u8 0, .int .u64 0, .int .u64 0, .int .u8 0, .string { data := #[] }, .slice none 0 0, .slice none 0 0, .int .u8 0, .int .u32 0, .int .u8 0, .string { data := #[] }, .string { data := #[] }, .string { data := #[] }, .int .u8 0, .int .u8 0, .string { data := #[] }]] wt2 fun e w' => e = .returned (.bool true) ∧ Upd (fun _ => False) wt2 w') := HSZ.out
    clear hE HSZ
    go_wp2_with (first | (refine wpList_load_row rfl 34 (.tmp 17) (by rfl) gm (by rfl) 34 _ (0, 0) _ hrow Try.underlying34 rfl (by kernel_rfl) ?_) | fail)
    clear hrow
    refine HSZ2.out.mono ?_
    rintro e wt3 ⟨rfl, hut3⟩
    have HUT3 := Lib.hid (HUT2.out.trans hut3 (fun _ _ h => h))
    clear hut3
    go_wp2_with fail
    refine (HWK.out _).mono ?_
    rintro e wt4 ⟨rfl, huT4⟩
    have HUT4 := Lib.hid (HUT3.out.trans huT4 (fun _ _ h => h))
    clear huT4
    go_wp2_with fail
    go_ret
    exact ⟨rfl, HUT4.out.below⟩
  case pos =>
    subst hE
    obtain ⟨q1, q2, q3, q4, q5⟩ := take_put HSB.out HTE.out
    have q7 := may_txt q2
    have HPM := Lib.hid (mput_any M q1 q7 HOM2.out.lists ⟨q4, q5⟩)
    rw [q3] at HPM
    have HCM := Lib.hid (fun (wx : World) (hu : Upd (fun _ => False) wt2 wx) => mcheck_any M q1 q7 (HOM2.out.lists.upd hu (fun _ _ h => h)))
    have q8 : mayE M = 0 := by unfold mayE; rw [q2]; rfl
    rw [q8] at HCM
    have HPM2 : Hid (Calls Try.prog 7 #[.agg (msCells M (.slice Mv mnv mcv) (.slice Mi mni mci))] wt2 fun e w' => e = .returned (.tuple #[.string (strOfNums ls), .int .i64 0]) ∧ Upd (fun _ => False) wt2 w') := HPM.out
    unfold msV msCells at HCM
    have hrow := HM2.out
    clear q1 q2 q3 q4 q5 q7 q8 HPM
    go_wp2_with (first | (refine wpList_load_row rfl 34 (.tmp 17) (by rfl) gm (by rfl) 34 _ (0, 0) _ hrow Try.underlying34 rfl (by kernel_rfl) ?_) | fail)
    clear hrow
    refine HPM2.out.mono ?_
    rintro e wt3 ⟨rfl, hut3⟩
    have HUT23 := Lib.hid hut3
    have HUT3 := Lib.hid (HUT2.out.trans hut3 (fun _ _ h => h))
    have hm3 := HM2.out.upd hut3 id
    unfold msCells at hm3
    have hlm := load_msg hm3 rfl
    simp [go_sem] at hlm
    clear hut3 hm3
    go_wp2_with fail
    clear hlm
    refine (HCM.out _ HUT23.out).mono ?_
    rintro e wt4 ⟨rfl, hut4⟩
    have HUT4 := Lib.hid (HUT3.out.trans hut4 (fun _ _ h => h))
    clear hut4
    go_wp2_with fail
    refine (HWK.out _).mono ?_
    rintro e wt5 ⟨rfl, huT5⟩
    have HUT5 := Lib.hid (HUT4.out.trans huT5 (fun _ _ h => h))
    clear huT5
    go_wp2_with fail
    go_ret
    exact ⟨rfl, HUT5.out.below⟩
set_option maxRecDepth 100000 in
set_option maxHeartbeats 16000000 in
theorem msgBack_p3 (a0 b0 : Ms) (ls : List Int) (w : World) {Av Ai Bv Bi : Option Addr} {nv cv ni ci mv dv mi di : Nat} (ha : RawM a0) (la : Lists w (fun k => k < w.heap.size) a0 (.slice Av nv cv) (.slice Ai ni ci)) (hb : RawM b0) (lb : Lists w (fun k => k < w.heap.size) b0 (.slice Bv mv dv) (.slice Bi mi di)) (hs : Byt ls) (hsl : ls.length ≤ maxLen) (hg : greatM a0 = false) (hh : greatM b0 = false) (hl : ls.length ≤ 5000) (hp : (putM a0).2 = 0) (hp2 : (putM b0).2 = 0) :
    Calls Try.prog 4 #[msV a0 (.slice Av nv cv) (.slice Ai ni ci), msV b0 (.slice Bv mv dv) (.slice Bi mi di), .string (strOfNums ls)] w fun e w' => e = .returned (.bool true) ∧ Below w.heap.size w w' := by
  have HWK := Lib.hid (fun wx => wakes18_true wx)
  have HGA := Lib.hid (fun (wx : World) (hu : Upd (fun _ => False) w wx) => great_any a0 ha (la.upd hu (fun _ _ h => h)))
  have HGB := Lib.hid (fun (wx : World) (hu : Upd (fun _ => False) w wx) => great_any b0 hb (lb.upd hu (fun _ _ h => h)))
  have HLA := Lib.hid la
  have HLB := Lib.hid lb
  have hz : (strOfNums ls).size = ls.length := strOfNums_size ls
  have HSB := Lib.hid hs
  unfold maxLen at hsl
  unfold msV msCells at HGA HGB ⊢
  rw [hg] at HGA
  rw [hh] at HGB
  obtain ⟨a1, a2, a3⟩ := small_ok ha hg
  obtain ⟨b1, b2, b3⟩ := small_ok hb hh
  have hl5 : (ls.length : Int) ≤ 5000 := by omega
  have HPA := Lib.hid (fun (wx : World) (hu : Upd (fun _ => False) w wx) => mput_any a0 a1 a2 (la.upd hu (fun _ _ h => h)) a3)
  have HPB := Lib.hid (fun (wx : World) (hu : Upd (fun _ => False) w wx) => mput_any b0 b1 b2 (lb.upd hu (fun _ _ h => h)) b3)
  have HTS := Lib.hid (fun wx => mtake_any ls hs (by omega) wx)
  have HWA := Lib.hid a1
  have HWB := Lib.hid b1
  obtain ⟨X, hX⟩ : ∃ X, takeM ls = X := ⟨_, rfl⟩
  obtain ⟨M, E⟩ := X
  have HTE := Lib.hid hX
  have HTZ : Hid (E ≠ 0 → M = ms0 0) := fun h => by
    have := takeM_zero (s := ls) (by rw [hX]; exact h)
    rw [hX] at this
    exact this
  rw [hX] at HTS
  obtain ⟨o1, o2, o3⟩ := putM_err hp
  have o4 := frameB_byt _ (insM_byt a1)
  have o5 : (frameB (insM a0)).length ≤ 100000 := by
    have := (numE_len (insM a0).length).2
    simp only [frameB, List.length_append, sumB_len]
    omega
  have HTX := Lib.hid (fun wx => mtake_any (frameB (insM a0)) o4 (by omega) wx)
  have HTD := Lib.hid (fun wx => mtake_any (frameB (insM a0)).dropLast (fun x hx => o4 x (List.dropLast_subset _ hx)) (by rw [List.length_dropLast]; omega) wx)
  have HTM := Lib.hid (fun wx => mtake_any (frameB (insM a0) ++ [0]) (o4.app (byt_one (by decide))) (by rw [List.length_append]; simp; omega) wx)
  rw [takeM_put a1 o1 o2] at HTX
  rw [takeM_short o2] at HTD
  rw [takeM_more o2] at HTM
  rw [o3] at HPA
  simp only at HPA
  obtain ⟨r1, r2, r3⟩ := putM_err hp2
  rw [r3] at HPB
  simp only at HPB
  have r4 := frameB_byt _ (insM_byt b1)
  have HSQ := Lib.hid (fun (wx : World) (hu : Upd (fun _ => False) w wx) => rsame_any a0 b0 a1 b1 (la.upd hu (fun _ _ h => h)) (lb.upd hu (fun _ _ h => h)))
  have hq := strOf_eq o4 r4
  have hqq : decide (frameB (insM a0) = frameB (insM b0)) = decide (a0 = b0) := by
    have := frame_inj a1 b1 o1 r1 o2 r2
    exact decide_eq_decide.2 this
  rw [hqq] at hq
  unfold msV msCells at HSQ
  have o6 : frameB (insM a0) ≠ [] := by
    have := (numE_len (insM a0).length).1
    intro h
    have h2 := congrArg List.length h
    simp only [frameB, List.length_append, List.length_nil] at h2
    omega
  have o7 : 1 ≤ (frameB (insM a0)).length := by
    rcases hq : frameB (insM a0) with _ | ⟨x, y⟩
    · exact absurd hq o6
    · simp
  have o8 := (strOf_ne _ o6).1
  have o9 := (strOf_ne _ o6).2
  have od := strOf_drop (frameB (insM a0))
  have oz := strOf_zero (frameB (insM a0))
  have os : (strOfNums (frameB (insM a0))).size = (frameB (insM a0)).length := strOfNums_size _
  clear o1 o2 o3 o4 o6
  rw [o8] at hq
  generalize frameB (insM a0) = FA at *
  generalize frameB (insM b0) = FB at *
  generalize decide (a0 = b0) = rb at *
  clear hqq r1 r2 r3 r4 hp2 hp
  unfold msV msCells at HPA HPB
  clear ha la hb lb hs hg hh hl hX a1 a2 a3 b1 b2 b3 hsl
  go_enter Try.func4, Try.ntmps4
  go_upto_region 1 with fail
  have ha1 := (Blk.new w 34 #[.int .u8 a0.kind, .int .u64 a0.bn, .int .u8 a0.br, .int .u64 a0.base, .int .u64 a0.slot, .int .u8 a0.node, .string (strOfNums a0.val), .slice Av nv cv, .slice Ai ni ci, .int .u8 a0.cmd.client, .int .u32 a0.cmd.seq, .int .u8 a0.cmd.kind, .string (strOfNums a0.cmd.key), .string (strOfNums a0.cmd.old), .string (strOfNums a0.cmd.new), .int .u8 a0.cmd.set, .int .u8 a0.code, .string (strOfNums a0.text)]).alloc (.cells #[.int .u8 b0.kind, .int .u64 b0.bn, .int .u8 b0.br, .int .u64 b0.base, .int .u64 b0.slot, .int .u8 b0.node, .string (strOfNums b0.val), .slice Bv mv dv, .slice Bi mi di, .int .u8 b0.cmd.client, .int .u32 b0.cmd.seq, .int .u8 b0.cmd.kind, .string (strOfNums b0.cmd.key), .string (strOfNums b0.cmd.old), .string (strOfNums b0.cmd.new), .int .u8 b0.cmd.set, .int .u8 b0.code, .string (strOfNums b0.text)] 34)
  have hb1 := Blk.newAt (w.alloc (.cells #[.int .u8 a0.kind, .int .u64 a0.bn, .int .u8 a0.br, .int .u64 a0.base, .int .u64 a0.slot, .int .u8 a0.node, .string (strOfNums a0.val), .slice Av nv cv, .slice Ai ni ci, .int .u8 a0.cmd.client, .int .u32 a0.cmd.seq, .int .u8 a0.cmd.kind, .string (strOfNums a0.cmd.key), .string (strOfNums a0.cmd.old), .string (strOfNums a0.cmd.new), .int .u8 a0.cmd.set, .int .u8 a0.code, .string (strOfNums a0.text)] 34)) (g := w.heap.size + 1) 34 #[.int .u8 b0.kind, .int .u64 b0.bn, .int .u8 b0.br, .int .u64 b0.base, .int .u64 b0.slot, .int .u8 b0.node, .string (strOfNums b0.val), .slice Bv mv dv, .slice Bi mi di, .int .u8 b0.cmd.client, .int .u32 b0.cmd.seq, .int .u8 b0.cmd.kind, .string (strOfNums b0.cmd.key), .string (strOfNums b0.cmd.old), .string (strOfNums b0.cmd.new), .int .u8 b0.cmd.set, .int .u8 b0.code, .string (strOfNums b0.text)] (by simp)
  have hu1 : Upd (fun _ => False) w ((w.alloc (.cells #[.int .u8 a0.kind, .int .u64 a0.bn, .int .u8 a0.br, .int .u64 a0.base, .int .u64 a0.slot, .int .u8 a0.node, .string (strOfNums a0.val), .slice Av nv cv, .slice Ai ni ci, .int .u8 a0.cmd.client, .int .u32 a0.cmd.seq, .int .u8 a0.cmd.kind, .string (strOfNums a0.cmd.key), .string (strOfNums a0.cmd.old), .string (strOfNums a0.cmd.new), .int .u8 a0.cmd.set, .int .u8 a0.code, .string (strOfNums a0.text)] 34)).alloc (.cells #[.int .u8 b0.kind, .int .u64 b0.bn, .int .u8 b0.br, .int .u64 b0.base, .int .u64 b0.slot, .int .u8 b0.node, .string (strOfNums b0.val), .slice Bv mv dv, .slice Bi mi di, .int .u8 b0.cmd.client, .int .u32 b0.cmd.seq, .int .u8 b0.cmd.kind, .string (strOfNums b0.cmd.key), .string (strOfNums b0.cmd.old), .string (strOfNums b0.cmd.new), .int .u8 b0.cmd.set, .int .u8 b0.code, .string (strOfNums b0.text)] 34)) := ((Upd.refl _ _).alloc _).alloc _
  generalize (w.alloc (.cells #[.int .u8 a0.kind, .int .u64 a0.bn, .int .u8 a0.br, .int .u64 a0.base, .int .u64 a0.slot, .int .u8 a0.node, .string (strOfNums a0.val), .slice Av nv cv, .slice Ai ni ci, .int .u8 a0.cmd.client, .int .u32 a0.cmd.seq, .int .u8 a0.cmd.kind, .string (strOfNums a0.cmd.key), .string (strOfNums a0.cmd.old), .string (strOfNums a0.cmd.new), .int .u8 a0.cmd.set, .int .u8 a0.code, .string (strOfNums a0.text)] 34)).alloc (.cells #[.int .u8 b0.kind, .int .u64 b0.bn, .int .u8 b0.br, .int .u64 b0.base, .int .u64 b0.slot, .int .u8 b0.node, .string (strOfNums b0.val), .slice Bv mv dv, .slice Bi mi di, .int .u8 b0.cmd.client, .int .u32 b0.cmd.seq, .int .u8 b0.cmd.kind, .string (strOfNums b0.cmd.key), .string (strOfNums b0.cmd.old), .string (strOfNums b0.cmd.new), .int .u8 b0.cmd.set, .int .u8 b0.code, .string (strOfNums b0.text)] 34) = w1 at *
  have HA1 := Lib.hid ha1
  have HB1 := Lib.hid hb1
  have HU1 := Lib.hid hu1
  clear hb1 hu1
  go_wp2_with (first | (refine wpList_load_row rfl 34 (.tmp 3) (by rfl) w.heap.size (by rfl) 34 _ (0, 0) _ ha1 Try.underlying34 rfl (by kernel_rfl) ?_) | fail)
  clear ha1
  refine (HGA.out _ HU1.out).mono ?_
  rintro e w2 ⟨rfl, hu2⟩
  have HU2 := Lib.hid (HU1.out.trans hu2 (fun _ _ h => h))
  have HA2 := Lib.hid (HA1.out.upd hu2 id)
  have HB2 := Lib.hid (HB1.out.upd hu2 id)
  clear hu2
  have hl2 := load_msg HB2.out rfl
  simp [go_sem] at hl2
  go_wp2_with fail
  clear hl2
  refine (HGB.out _ HU2.out).mono ?_
  rintro e w3 ⟨rfl, hu3⟩
  have HU3 := Lib.hid (HU2.out.trans hu3 (fun _ _ h => h))
  have HA3 := Lib.hid (HA2.out.upd hu3 id)
  have HB3 := Lib.hid (HB2.out.upd hu3 id)
  clear hu3
  have hrow := HA3.out
  go_wp2_with (first | (refine wpList_load_row rfl 34 (.tmp 3) (by rfl) w.heap.size (by rfl) 34 _ (0, 0) _ hrow Try.underlying34 rfl (by kernel_rfl) ?_) | fail)
  clear hrow
  refine (HPA.out _ HU3.out).mono ?_
  rintro e w4 ⟨rfl, hu4⟩
  have HU4 := Lib.hid (HU3.out.trans hu4 (fun _ _ h => h))
  have HA4 := Lib.hid (HA3.out.upd hu4 id)
  have HB4 := Lib.hid (HB3.out.upd hu4 id)
  clear hu4
  have hrow := HB4.out
  go_wp2_with (first | (refine wpList_load_row rfl 34 (.tmp 4) (by rfl) (w.heap.size + 1) (by rfl) 34 _ (0, 0) _ hrow Try.underlying34 rfl (by kernel_rfl) ?_) | fail)
  clear hrow
  refine (HPB.out _ HU4.out).mono ?_
  rintro e w5 ⟨rfl, hu5⟩
  have HU5 := Lib.hid (HU4.out.trans hu5 (fun _ _ h => h))
  have HA5 := Lib.hid (HA4.out.upd hu5 id)
  have HB5 := Lib.hid (HB4.out.upd hu5 id)
  clear hu5
  have e1 := HA5.out
  have e2 := HB5.out
  have l1 := load_msg e1 rfl
  simp [go_sem] at l1
  have l2 := load_msg e2 rfl
  simp [go_sem] at l2
  clear e1 e2
  go_wp2_with fail
  clear l1 l2
  refine (HSQ.out _ HU5.out).mono ?_
  rintro e w6 ⟨rfl, hu6⟩
  have HU6 := Lib.hid (HU5.out.trans hu6 (fun _ _ h => h))
  have HA6 := Lib.hid (HA5.out.upd hu6 id)
  clear hu6
  cases rb
  all_goals
    go_wp2_with fail
    refine (HTX.out _).mono ?_
    rintro e wm1 ⟨kv, ki, rfl, hum1, hok⟩
    have HUM1 := Lib.hid (HU6.out.trans hum1 (fun _ _ h => h))
    have HAM1 := Lib.hid (HA6.out.upd hum1 id)
    obtain ⟨Kv, knv, kcv, Ki, kni, kci, rfl, rfl⟩ := hok.lists.shape
    have HOK := Lib.hid hok
    clear hum1 hok
    have hmsv : msV (a0, (0 : Int)).1 (.slice Kv knv kcv) (.slice Ki kni kci) = .agg (msCells a0 (.slice Kv knv kcv) (.slice Ki kni kci)) := rfl
    rw [hmsv]
    clear hmsv
    go_upto_region 11 with (first | (refine wpList_store_row rfl 34 (.tmp 11) (.tmp 65) (by rfl) wm1.heap.size (msCells a0 (.slice Kv knv kcv) (.slice Ki kni kci)) (by rfl) (by rfl) 34 #[.int .u8 0, .int .u64 0, .int .u8 0, .int .u64 0, .int .u64 0, .int .u8 0, .string { data := #[] }, .slice none 0 0, .slice none 0 0, .int .u8 0, .int .u32 0, .int .u8 0, .string { data := #[] }, .string { data := #[] }, .string { data := #[] }, .int .u8 0, .int .u8 0, .string { data := #[] }] (Blk.new wm1 34 #[.int .u8 0, .int .u64 0, .int .u8 0, .int .u64 0, .int .u64 0, .int .u8 0, .string { data := #[] }, .slice none 0 0, .slice none 0 0, .int .u8 0, .int .u32 0, .int .u8 0, .string { data := #[] }, .string { data := #[] }, .string { data := #[] }, .int .u8 0, .int .u8 0, .string { data := #[] }]) (by kernel_rfl) rfl (msCells_one a0 Kv Ki knv kcv kni kci) ?_) | fail)
    obtain ⟨gk, hgk⟩ : ∃ g, g = wm1.heap.size := ⟨_, rfl⟩
    obtain ⟨wm2, hwm2⟩ : ∃ w5, w5 = (wm1.alloc (.cells #[.int .u8 0, .int .u64 0, .int .u8 0, .int .u64 0, .int .u64 0, .int .u8 0, .string { data := #[] }, .slice none 0 0, .slice none 0 0, .int .u8 0, .int .u32 0, .int .u8 0, .string { data := #[] }, .string { data := #[] }, .string { data := #[] }, .int .u8 0, .int .u8 0, .string { data := #[] }] 34)).setRow wm1.heap.size (msCells a0 (.slice Kv knv kcv) (.slice Ki kni kci)) := ⟨_, rfl⟩
    rw [← hwm2, ← hgk]
    have hbm2 : Blk wm2 gk 34 (msCells a0 (.slice Kv knv kcv) (.slice Ki kni kci)) := by rw [hwm2, hgk]; exact Blk.setRow (Blk.new wm1 34 #[.int .u8 0, .int .u64 0, .int .u8 0, .int .u64 0, .int .u64 0, .int .u8 0, .string { data := #[] }, .slice none 0 0, .slice none 0 0, .int .u8 0, .int .u32 0, .int .u8 0, .string { data := #[] }, .string { data := #[] }, .string { data := #[] }, .int .u8 0, .int .u8 0, .string { data := #[] }])
    have hum2 : Upd (fun _ => False) wm1 wm2 := by rw [hwm2]; exact ((Upd.refl _ _).alloc _).setRow (.inr (Nat.le_refl _)) _
    have HK2 := Lib.hid hbm2
    have HUM2 := Lib.hid (HUM1.out.trans hum2 (fun _ _ h => h))
    have HAM2 := Lib.hid (HAM1.out.upd hum2 id)
    have HOK2 := Lib.hid (HOK.out.upd hum2 (fun _ _ => id))
    clear hwm2 hgk hbm2 hum2
    go_wp2_with fail
    refine (HTD.out _).mono ?_
    rintro e wm3 ⟨zv, zi, rfl, hum3, hoz⟩
    have HUM23 := Lib.hid hum3
    have HUM3 := Lib.hid (HUM2.out.trans hum3 (fun _ _ h => h))
    obtain ⟨Zv, znv, zcv, Zi, zni, zci, rfl, rfl⟩ := hoz.lists.shape
    clear hum3 hoz
    have hmsv : msV (ms0 0, (3 : Int)).1 (.slice Zv znv zcv) (.slice Zi zni zci) = .agg (msCells (ms0 0) (.slice Zv znv zcv) (.slice Zi zni zci)) := rfl
    rw [hmsv]
    clear hmsv
    go_upto_region 12 with (first | (refine wpList_store_row rfl 34 (.tmp 13) (.tmp 74) (by rfl) wm3.heap.size (msCells (ms0 0) (.slice Zv znv zcv) (.slice Zi zni zci)) (by rfl) (by rfl) 34 #[.int .u8 0, .int .u64 0, .int .u8 0, .int .u64 0, .int .u64 0, .int .u8 0, .string { data := #[] }, .slice none 0 0, .slice none 0 0, .int .u8 0, .int .u32 0, .int .u8 0, .string { data := #[] }, .string { data := #[] }, .string { data := #[] }, .int .u8 0, .int .u8 0, .string { data := #[] }] (Blk.new wm3 34 #[.int .u8 0, .int .u64 0, .int .u8 0, .int .u64 0, .int .u64 0, .int .u8 0, .string { data := #[] }, .slice none 0 0, .slice none 0 0, .int .u8 0, .int .u32 0, .int .u8 0, .string { data := #[] }, .string { data := #[] }, .string { data := #[] }, .int .u8 0, .int .u8 0, .string { data := #[] }]) (by kernel_rfl) rfl (msCells_one (ms0 0) Zv Zi znv zcv zni zci) ?_) | fail)
    have hum4 : Upd (fun _ => False) wm3 ((wm3.alloc (.cells #[.int .u8 0, .int .u64 0, .int .u8 0, .int .u64 0, .int .u64 0, .int .u8 0, .string { data := #[] }, .slice none 0 0, .slice none 0 0, .int .u8 0, .int .u32 0, .int .u8 0, .string { data := #[] }, .string { data := #[] }, .string { data := #[] }, .int .u8 0, .int .u8 0, .string { data := #[] }] 34)).setRow wm3.heap.size (msCells (ms0 0) (.slice Zv znv zcv) (.slice Zi zni zci))) := ((Upd.refl _ _).alloc _).setRow (.inr (Nat.le_refl _)) _
    generalize (wm3.alloc (.cells #[.int .u8 0, .int .u64 0, .int .u8 0, .int .u64 0, .int .u64 0, .int .u8 0, .string { data := #[] }, .slice none 0 0, .slice none 0 0, .int .u8 0, .int .u32 0, .int .u8 0, .string { data := #[] }, .string { data := #[] }, .string { data := #[] }, .int .u8 0, .int .u8 0, .string { data := #[] }] 34)).setRow wm3.heap.size (msCells (ms0 0) (.slice Zv znv zcv) (.slice Zi zni zci)) = wm4 at *
    have HUM24 := Lib.hid (HUM23.out.trans hum4 (fun _ _ h => h))
    have HUM4 := Lib.hid (HUM3.out.trans hum4 (fun _ _ h => h))
    clear hum4
    go_wp2_with fail
    refine (HTM.out _).mono ?_
    rintro e wm5 ⟨yv, yi, rfl, hum5, hoy⟩
    have HUM25 := Lib.hid (HUM24.out.trans hum5 (fun _ _ h => h))
    have HUM5 := Lib.hid (HUM4.out.trans hum5 (fun _ _ h => h))
    obtain ⟨Yv, ynv, ycv, Yi, yni, yci, rfl, rfl⟩ := hoy.lists.shape
    clear hum5 hoy
    have hmsv : msV (ms0 0, (4 : Int)).1 (.slice Yv ynv ycv) (.slice Yi yni yci) = .agg (msCells (ms0 0) (.slice Yv ynv ycv) (.slice Yi yni yci)) := rfl
    rw [hmsv]
    clear hmsv
    go_upto_region 13 with (first | (refine wpList_store_row rfl 34 (.tmp 15) (.tmp 80) (by rfl) wm5.heap.size (msCells (ms0 0) (.slice Yv ynv ycv) (.slice Yi yni yci)) (by rfl) (by rfl) 34 #[.int .u8 0, .int .u64 0, .int .u8 0, .int .u64 0, .int .u64 0, .int .u8 0, .string { data := #[] }, .slice none 0 0, .slice none 0 0, .int .u8 0, .int .u32 0, .int .u8 0, .string { data := #[] }, .string { data := #[] }, .string { data := #[] }, .int .u8 0, .int .u8 0, .string { data := #[] }] (Blk.new wm5 34 #[.int .u8 0, .int .u64 0, .int .u8 0, .int .u64 0, .int .u64 0, .int .u8 0, .string { data := #[] }, .slice none 0 0, .slice none 0 0, .int .u8 0, .int .u32 0, .int .u8 0, .string { data := #[] }, .string { data := #[] }, .string { data := #[] }, .int .u8 0, .int .u8 0, .string { data := #[] }]) (by kernel_rfl) rfl (msCells_one (ms0 0) Yv Yi ynv ycv yni yci) ?_) | fail)
    have hum6 : Upd (fun _ => False) wm5 ((wm5.alloc (.cells #[.int .u8 0, .int .u64 0, .int .u8 0, .int .u64 0, .int .u64 0, .int .u8 0, .string { data := #[] }, .slice none 0 0, .slice none 0 0, .int .u8 0, .int .u32 0, .int .u8 0, .string { data := #[] }, .string { data := #[] }, .string { data := #[] }, .int .u8 0, .int .u8 0, .string { data := #[] }] 34)).setRow wm5.heap.size (msCells (ms0 0) (.slice Yv ynv ycv) (.slice Yi yni yci))) := ((Upd.refl _ _).alloc _).setRow (.inr (Nat.le_refl _)) _
    generalize (wm5.alloc (.cells #[.int .u8 0, .int .u64 0, .int .u8 0, .int .u64 0, .int .u64 0, .int .u8 0, .string { data := #[] }, .slice none 0 0, .slice none 0 0, .int .u8 0, .int .u32 0, .int .u8 0, .string { data := #[] }, .string { data := #[] }, .string { data := #[] }, .int .u8 0, .int .u8 0, .string { data := #[] }] 34)).setRow wm5.heap.size (msCells (ms0 0) (.slice Yv ynv ycv) (.slice Yi yni yci)) = wm6 at *
    have HUM26 := Lib.hid (HUM25.out.trans hum6 (fun _ _ h => h))
    have HUM6 := Lib.hid (HUM5.out.trans hum6 (fun _ _ h => h))
    clear hum6
    have HK6 := Lib.hid (HK2.out.upd HUM26.out id)
    have HA6 := Lib.hid (HAM2.out.upd HUM26.out id)
    have HSS := Lib.hid (rsame_any a0 a0 HWA.out HWA.out (HOK2.out.lists.upd HUM26.out (fun _ _ h => h)) (HLA.out.upd HUM6.out (fun _ _ h => h)))
    rw [decide_eq_true rfl] at HSS
    have k1 := HK6.out
    have k2 := HA6.out
    unfold msV msCells at HSS
    unfold msCells at k1
    have l1 := load_msg k1 rfl
    simp [go_sem] at l1
    have l2 := load_msg k2 rfl
    simp [go_sem] at l2
    clear k1 k2
    go_wp2_with fail
    clear l1 l2
    refine HSS.out.mono ?_
    rintro e wm7 ⟨rfl, hum7⟩
    have HUM7 := Lib.hid (HUM6.out.trans hum7 (fun _ _ h => h))
    clear hum7 HSS HK6 HA6 HK2 HAM1 HAM2 HOK HOK2 HUM1 HUM2 HUM3 HUM4 HUM5 HUM6 HUM23 HUM24 HUM25 HUM26
    go_wp2_with fail
    refine (HTS.out _).mono ?_
    rintro e wt1 ⟨mv1, mi1, rfl, hut1, hom⟩
    have HUT1 := Lib.hid (HUM7.out.trans hut1 (fun _ _ h => h))
    obtain ⟨Mv, mnv, mcv, Mi, mni, mci, rfl, rfl⟩ := hom.lists.shape
    have HOM := Lib.hid hom
    clear hut1 hom
    have hmsv : msV (M, E).1 (.slice Mv mnv mcv) (.slice Mi mni mci) = .agg (msCells M (.slice Mv mnv mcv) (.slice Mi mni mci)) := rfl
    rw [hmsv]
    clear hmsv
    go_upto_region 16 with (first | (refine wpList_store_row rfl 34 (.tmp 17) (.tmp 101) (by rfl) wt1.heap.size (msCells M (.slice Mv mnv mcv) (.slice Mi mni mci)) (by rfl) (by rfl) 34 #[.int .u8 0, .int .u64 0, .int .u8 0, .int .u64 0, .int .u64 0, .int .u8 0, .string { data := #[] }, .slice none 0 0, .slice none 0 0, .int .u8 0, .int .u32 0, .int .u8 0, .string { data := #[] }, .string { data := #[] }, .string { data := #[] }, .int .u8 0, .int .u8 0, .string { data := #[] }] (Blk.new wt1 34 #[.int .u8 0, .int .u64 0, .int .u8 0, .int .u64 0, .int .u64 0, .int .u8 0, .string { data := #[] }, .slice none 0 0, .slice none 0 0, .int .u8 0, .int .u32 0, .int .u8 0, .string { data := #[] }, .string { data := #[] }, .string { data := #[] }, .int .u8 0, .int .u8 0, .string { data := #[] }]) (by kernel_rfl) rfl (msCells_one M Mv Mi mnv mcv mni mci) ?_) | fail)
    obtain ⟨gm, hgm⟩ : ∃ g, g = wt1.heap.size := ⟨_, rfl⟩
    obtain ⟨wt2, hwt2⟩ : ∃ w5, w5 = (wt1.alloc (.cells #[.int .u8 0, .int .u64 0, .int .u8 0, .int .u64 0, .int .u64 0, .int .u8 0, .string { data := #[] }, .slice none 0 0, .slice none 0 0, .int .u8 0, .int .u32 0, .int .u8 0, .string { data := #[] }, .string { data := #[] }, .string { data := #[] }, .int .u8 0, .int .u8 0, .string { data := #[] }] 34)).setRow wt1.heap.size (msCells M (.slice Mv mnv mcv) (.slice Mi mni mci)) := ⟨_, rfl⟩
    rw [← hwt2, ← hgm]
    have hbt2 : Blk wt2 gm 34 (msCells M (.slice Mv mnv mcv) (.slice Mi mni mci)) := by rw [hwt2, hgm]; exact Blk.setRow (Blk.new wt1 34 #[.int .u8 0, .int .u64 0, .int .u8 0, .int .u64 0, .int .u64 0, .int .u8 0, .string { data := #[] }, .slice none 0 0, .slice none 0 0, .int .u8 0, .int .u32 0, .int .u8 0, .string { data := #[] }, .string { data := #[] }, .string { data := #[] }, .int .u8 0, .int .u8 0, .string { data := #[] }])
    have hut2 : Upd (fun _ => False) wt1 wt2 := by rw [hwt2]; exact ((Upd.refl _ _).alloc _).setRow (.inr (Nat.le_refl _)) _
    have HM2 := Lib.hid hbt2
    have HUT2 := Lib.hid (HUT1.out.trans hut2 (fun _ _ h => h))
    have HOM2 := Lib.hid (HOM.out.upd hut2 (fun _ _ => id))
    clear hwt2 hgm hbt2 hut2
    by_cases hE : E = 0
    case neg =>
      have hM : M = ms0 0 := HTZ.out hE
      subst hM
      have hne : (E != 0) = true := bne_iff_ne.2 hE
      have HSZ := Lib.hid (rsame_any (ms0 0) (ms0 0) (wf_ms0 0 (by decide) (by decide)) (wf_ms0 0 (by decide) (by decide)) HOM2.out.lists (lists_nil wt2 (ms0 0) rfl rfl))
      rw [decide_eq_true rfl] at HSZ
      have hrow := HM2.out
      have HSZ2 : Hid (Calls Try.prog 11 #[.agg (msCells (ms0 0) (.slice Mv mnv mcv) (.slice Mi mni mci)), .agg #[.int .u8 0, .int .u64 0, .int .u8 0, .int .u64 0, .int .u64 0, .int .u8 0, .string { data := #[] }, .slice none 0 0, .slice none 0 0, .int .u8 0, .int .u32 0, .int .u8 0, .string { data := #[] }, .string { data := #[] }, .string { data := #[] }, .int .u8 0, .int .u8 0, .string { data := #[] }]] wt2 fun e w' => e = .returned (.bool true) ∧ Upd (fun _ => False) wt2 w') := HSZ.out
      clear hE HSZ
      go_wp2_with (first | (refine wpList_load_row rfl 34 (.tmp 17) (by rfl) gm (by rfl) 34 _ (0, 0) _ hrow Try.underlying34 rfl (by kernel_rfl) ?_) | fail)
      clear hrow
      refine HSZ2.out.mono ?_
      rintro e wt3 ⟨rfl, hut3⟩
      have HUT3 := Lib.hid (HUT2.out.trans hut3 (fun _ _ h => h))
      clear hut3
      go_wp2_with fail
      refine (HWK.out _).mono ?_
      rintro e wt4 ⟨rfl, huT4⟩
      have HUT4 := Lib.hid (HUT3.out.trans huT4 (fun _ _ h => h))
      clear huT4
      go_wp2_with fail
      go_ret
      exact ⟨rfl, HUT4.out.below⟩
    case pos =>
      subst hE
      obtain ⟨q1, q2, q3, q4, q5⟩ := take_put HSB.out HTE.out
      have q7 := may_txt q2
      have HPM := Lib.hid (mput_any M q1 q7 HOM2.out.lists ⟨q4, q5⟩)
      rw [q3] at HPM
      have HCM := Lib.hid (fun (wx : World) (hu : Upd (fun _ => False) wt2 wx) => mcheck_any M q1 q7 (HOM2.out.lists.upd hu (fun _ _ h => h)))
      have q8 : mayE M = 0 := by unfold mayE; rw [q2]; rfl
      rw [q8] at HCM
      have HPM2 : Hid (Calls Try.prog 7 #[.agg (msCells M (.slice Mv mnv mcv) (.slice Mi mni mci))] wt2 fun e w' => e = .returned (.tuple #[.string (strOfNums ls), .int .i64 0]) ∧ Upd (fun _ => False) wt2 w') := HPM.out
      unfold msV msCells at HCM
      have hrow := HM2.out
      clear q1 q2 q3 q4 q5 q7 q8 HPM
      go_wp2_with (first | (refine wpList_load_row rfl 34 (.tmp 17) (by rfl) gm (by rfl) 34 _ (0, 0) _ hrow Try.underlying34 rfl (by kernel_rfl) ?_) | fail)
      clear hrow
      refine HPM2.out.mono ?_
      rintro e wt3 ⟨rfl, hut3⟩
      have HUT23 := Lib.hid hut3
      have HUT3 := Lib.hid (HUT2.out.trans hut3 (fun _ _ h => h))
      have hm3 := HM2.out.upd hut3 id
      unfold msCells at hm3
      have hlm := load_msg hm3 rfl
      simp [go_sem] at hlm
      clear hut3 hm3
      go_wp2_with fail
      clear hlm
      refine (HCM.out _ HUT23.out).mono ?_
      rintro e wt4 ⟨rfl, hut4⟩
      have HUT4 := Lib.hid (HUT3.out.trans hut4 (fun _ _ h => h))
      clear hut4
      go_wp2_with fail
      refine (HWK.out _).mono ?_
      rintro e wt5 ⟨rfl, huT5⟩
      have HUT5 := Lib.hid (HUT4.out.trans huT5 (fun _ _ h => h))
      clear huT5
      go_wp2_with fail
      go_ret
      exact ⟨rfl, HUT5.out.below⟩
theorem msgBack_walk (a0 : Ms) (va0 vi0 : Value) (a1 : Ms) (va1 vi1 : Value) (s : ByteArray) (w : World) (h0 : RawM a0) (l0 : Lists w (fun k => k < w.heap.size) a0 va0 vi0) (h1 : RawM a1) (l1 : Lists w (fun k => k < w.heap.size) a1 va1 vi1) (hs : s.size ≤ maxLen) :
    Calls Try.prog 4 #[msV a0 va0 vi0, msV a1 va1 vi1, .string s] w fun e w' => e = .returned (.bool true) ∧ Below w.heap.size w w' := by
  obtain ⟨Av, nv, cv, Ai, ni, ci, rfl, rfl⟩ := l0.shape
  obtain ⟨Bv, mv, dv, Bi, mi, di, rfl, rfl⟩ := l1.shape
  obtain ⟨ls, rfl, hb⟩ : ∃ ls, s = strOfNums ls ∧ Byt ls := ⟨nums s, (str_nums s).symm, nums_byt s⟩
  rw [strOfNums_size] at hs
  cases hg : greatM a0
  case true => exact msgBack_ga a0 a1 ls w h0 l0 h1 l1 hb hs hg
  cases hh : greatM a1
  case true => exact msgBack_gb a0 a1 ls w h0 l0 h1 l1 hb hs hg hh
  by_cases hl : 5000 < ls.length
  · exact msgBack_gs a0 a1 ls w h0 l0 h1 l1 hb hs hg hh hl
  have hl' : ls.length ≤ 5000 := by omega
  by_cases hp : (putM a0).2 = 0
  · by_cases hp2 : (putM a1).2 = 0
    · exact msgBack_p3 a0 a1 ls w h0 l0 h1 l1 hb hs hg hh hl' hp hp2
    · exact msgBack_p2 a0 a1 ls w h0 l0 h1 l1 hb hs hg hh hl' hp hp2
  · exact msgBack_p1 a0 a1 ls w h0 l0 h1 l1 hb hs hg hh hl' hp
end Go.Proofs.Ytaielcokfpodaaa
