/-
  Layer 18, messages: what takes the parts that have no lists. Conditions: a reader of at most 10^12 bytes.
-/
import Derived.Test.YtaielcokfpodaaaMsgQ
namespace Go.Proofs.Ytaielcokfpodaaa
open Go.RowKit

theorem upd_sets {w : World} {F : Nat → Prop} {g : Nat} (hg : F g) {wx : World} (h : Upd F w wx) (i : Nat) (u : Value) : Upd F w (wx.setCell ⟨g, i, none⟩ u) := Upd.setCell (F := F) h (p := ⟨g, i, none⟩) (.inl hg) _

set_option maxRecDepth 100000 in
set_option maxHeartbeats 2000000 in
theorem wh_take {w : World} {b g : Nat} {s : Rs} (hR : Rd w b s) (hs : RdOk s) (m : Ms) {Av Ai : Option Addr} {nv cv ni ci : Nat} (hM : Blk w g 34 (msCells m (.slice Av nv cv) (.slice Ai ni ci))) :
    Calls Try.prog 43 #[.pointer (some ⟨b, 0, none⟩), .pointer (some ⟨g, 0, none⟩)] w fun e w' => e = .returned (.tuple #[]) ∧ Rd w' b (ptTake (m, s) .whole).2 ∧ Blk w' g 34 (msCells (ptTake (m, s) .whole).1 (.slice Av nv cv) (.slice Ai ni ci)) ∧ Upd (fun j => j = b ∨ j = g) w w' := by
  have hbg : b ≠ g := Blk.ne_ hR hM (by decide)
  obtain ⟨kind, bn, br, base, slot, node, val, votes, items, ⟨client, seq, ckind, key, old, new, cset⟩, code, text⟩ := m
  unfold ptTake msCells at *
  dsimp only at hM ⊢
  have HR := Lib.hid hR
  have HM := Lib.hid hM
  have HC0 := Lib.hid (fun (wx : World) (hx : Rd wx b s) => ctake_any hx hs)
  have hok0 := hs.cmd
  generalize pCmd s = r at *
  obtain ⟨⟨c1, c2, c3, c4, c5, c6, c7⟩, s0⟩ := r
  dsimp only at HC0 hok0 ⊢
  unfold cmdV at HC0
  dsimp only at HC0
  clear hR hM hs
  go_enter Try.func43, Try.ntmps43
  go_wp2_with fail
  refine (HC0.out _ HR.out).mono ?_
  rintro e w0 ⟨rfl, hto0⟩
  have HT0 := Lib.hid (hto0)
  clear hto0
  have hb := HM.out.upd HT0.out.1 (fun e => hbg e.symm)
  have HB := Lib.hid hb
  have f9 := hb.cell 9
  have z9 := hb.frozen 9
  have f10 := hb.cell 10
  have z10 := hb.frozen 10
  have f11 := hb.cell 11
  have z11 := hb.frozen 11
  have f12 := hb.cell 12
  have z12 := hb.frozen 12
  have f13 := hb.cell 13
  have z13 := hb.frozen 13
  have f14 := hb.cell 14
  have z14 := hb.frozen 14
  have f15 := hb.cell 15
  have z15 := hb.frozen 15
  simp only [List.getElem?_toArray, List.getElem?_cons_zero, List.getElem?_cons_succ] at f9 f10 f11 f12 f13 f14 f15
  clear hb
  go_wp2_with fail
  go_end0
  refine ⟨rfl, ?_, ?_, ?_⟩
  · exact (Blk.far (Blk.far (Blk.far (Blk.far (Blk.far (Blk.far (Blk.far HT0.out.2 (p := ⟨g, 9, none⟩) hbg (.int .u8 c1)) (p := ⟨g, 10, none⟩) hbg (.int .u32 c2)) (p := ⟨g, 11, none⟩) hbg (.int .u8 c3)) (p := ⟨g, 12, none⟩) hbg (.string (strOfNums c4))) (p := ⟨g, 13, none⟩) hbg (.string (strOfNums c5))) (p := ⟨g, 14, none⟩) hbg (.string (strOfNums c6))) (p := ⟨g, 15, none⟩) hbg (.int .u8 c7))
  · simpa using (((((((HB.out.set_ 9 (.int .u8 c1)).set_ 10 (.int .u32 c2)).set_ 11 (.int .u8 c3)).set_ 12 (.string (strOfNums c4))).set_ 13 (.string (strOfNums c5))).set_ 14 (.string (strOfNums c6))).set_ 15 (.int .u8 c7))
  · exact (upd_sets (F := fun j => j = b ∨ j = g) (.inr rfl) (upd_sets (F := fun j => j = b ∨ j = g) (.inr rfl) (upd_sets (F := fun j => j = b ∨ j = g) (.inr rfl) (upd_sets (F := fun j => j = b ∨ j = g) (.inr rfl) (upd_sets (F := fun j => j = b ∨ j = g) (.inr rfl) (upd_sets (F := fun j => j = b ∨ j = g) (.inr rfl) (upd_sets (F := fun j => j = b ∨ j = g) (.inr rfl) (HT0.out.1.mono (G := fun j => j = b ∨ j = g) (fun _ _ h => .inl h)) 9 (.int .u8 c1)) 10 (.int .u32 c2)) 11 (.int .u8 c3)) 12 (.string (strOfNums c4))) 13 (.string (strOfNums c5))) 14 (.string (strOfNums c6))) 15 (.int .u8 c7))

set_option maxRecDepth 100000 in
set_option maxHeartbeats 2000000 in
theorem nm_take {w : World} {b g : Nat} {s : Rs} (hR : Rd w b s) (hs : RdOk s) (m : Ms) {Av Ai : Option Addr} {nv cv ni ci : Nat} (hM : Blk w g 34 (msCells m (.slice Av nv cv) (.slice Ai ni ci))) :
    Calls Try.prog 49 #[.pointer (some ⟨b, 0, none⟩), .pointer (some ⟨g, 0, none⟩)] w fun e w' => e = .returned (.tuple #[]) ∧ Rd w' b (ptTake (m, s) .name).2 ∧ Blk w' g 34 (msCells (ptTake (m, s) .name).1 (.slice Av nv cv) (.slice Ai ni ci)) ∧ Upd (fun j => j = b ∨ j = g) w w' := by
  have hbg : b ≠ g := Blk.ne_ hR hM (by decide)
  obtain ⟨kind, bn, br, base, slot, node, val, votes, items, ⟨client, seq, ckind, key, old, new, cset⟩, code, text⟩ := m
  unfold ptTake msCells at *
  dsimp only at hM ⊢
  have HR := Lib.hid hR
  have HM := Lib.hid hM
  have HC0 := Lib.hid (fun (wx : World) (hx : Rd wx b s) => wbyte_any hx hs)
  have hok0 := hs.byte
  generalize pByte s = r at *
  obtain ⟨x0, s0⟩ := r
  dsimp only at HC0 hok0 ⊢
  have HC1 := Lib.hid (fun (wx : World) (hx : Rd wx b s0) => wrbelow_any hx hok0.1 4294967296 (by decide) (by decide))
  have hok1 := hok0.1.rbelow 4294967296 (by decide)
  generalize pBelow 4294967296 s0 = r at *
  obtain ⟨x1, s1⟩ := r
  dsimp only at HC1 hok1 ⊢
  have q0 := hok1.2.1
  have q1 := hok1.2.2
  clear hR hM hs
  go_enter Try.func49, Try.ntmps49
  go_wp2_with fail
  refine (HC0.out _ HR.out).mono ?_
  rintro e w0 ⟨rfl, hto0⟩
  have HT0 := Lib.hid (hto0)
  clear hto0
  go_wp2_with fail
  refine (HC1.out _ HT0.out.2).mono ?_
  rintro e w1 ⟨rfl, hto1⟩
  have HT1 := Lib.hid (HT0.out.trans hto1)
  clear hto1
  have hb := HM.out.upd HT1.out.1 (fun e => hbg e.symm)
  have HB := Lib.hid hb
  have f9 := hb.cell 9
  have z9 := hb.frozen 9
  have f10 := hb.cell 10
  have z10 := hb.frozen 10
  have f11 := hb.cell 11
  have z11 := hb.frozen 11
  have f12 := hb.cell 12
  have z12 := hb.frozen 12
  have f13 := hb.cell 13
  have z13 := hb.frozen 13
  have f14 := hb.cell 14
  have z14 := hb.frozen 14
  have f15 := hb.cell 15
  have z15 := hb.frozen 15
  simp only [List.getElem?_toArray, List.getElem?_cons_zero, List.getElem?_cons_succ] at f9 f10 f11 f12 f13 f14 f15
  clear hb
  go_wp2_with fail
  go_end0
  refine ⟨rfl, ?_, ?_, ?_⟩
  · exact (Blk.far (Blk.far (Blk.far (Blk.far (Blk.far (Blk.far (Blk.far HT1.out.2 (p := ⟨g, 9, none⟩) hbg (.int .u8 x0)) (p := ⟨g, 10, none⟩) hbg (.int .u32 x1)) (p := ⟨g, 11, none⟩) hbg (.int .u8 0)) (p := ⟨g, 12, none⟩) hbg (.string { data := #[] })) (p := ⟨g, 13, none⟩) hbg (.string { data := #[] })) (p := ⟨g, 14, none⟩) hbg (.string { data := #[] })) (p := ⟨g, 15, none⟩) hbg (.int .u8 0))
  · simpa [strOf_nil] using (((((((HB.out.set_ 9 (.int .u8 x0)).set_ 10 (.int .u32 x1)).set_ 11 (.int .u8 0)).set_ 12 (.string { data := #[] })).set_ 13 (.string { data := #[] })).set_ 14 (.string { data := #[] })).set_ 15 (.int .u8 0))
  · exact (upd_sets (F := fun j => j = b ∨ j = g) (.inr rfl) (upd_sets (F := fun j => j = b ∨ j = g) (.inr rfl) (upd_sets (F := fun j => j = b ∨ j = g) (.inr rfl) (upd_sets (F := fun j => j = b ∨ j = g) (.inr rfl) (upd_sets (F := fun j => j = b ∨ j = g) (.inr rfl) (upd_sets (F := fun j => j = b ∨ j = g) (.inr rfl) (upd_sets (F := fun j => j = b ∨ j = g) (.inr rfl) (HT1.out.1.mono (G := fun j => j = b ∨ j = g) (fun _ _ h => .inl h)) 9 (.int .u8 x0)) 10 (.int .u32 x1)) 11 (.int .u8 0)) 12 (.string { data := #[] })) 13 (.string { data := #[] })) 14 (.string { data := #[] })) 15 (.int .u8 0))

set_option maxRecDepth 100000 in
set_option maxHeartbeats 2000000 in
theorem rp_take {w : World} {b g : Nat} {s : Rs} (hR : Rd w b s) (hs : RdOk s) (m : Ms) {Av Ai : Option Addr} {nv cv ni ci : Nat} (hM : Blk w g 34 (msCells m (.slice Av nv cv) (.slice Ai ni ci))) :
    Calls Try.prog 55 #[.pointer (some ⟨b, 0, none⟩), .pointer (some ⟨g, 0, none⟩)] w fun e w' => e = .returned (.tuple #[]) ∧ Rd w' b (ptTake (m, s) .reply).2 ∧ Blk w' g 34 (msCells (ptTake (m, s) .reply).1 (.slice Av nv cv) (.slice Ai ni ci)) ∧ Upd (fun j => j = b ∨ j = g) w w' := by
  have hbg : b ≠ g := Blk.ne_ hR hM (by decide)
  obtain ⟨kind, bn, br, base, slot, node, val, votes, items, ⟨client, seq, ckind, key, old, new, cset⟩, code, text⟩ := m
  unfold ptTake msCells at *
  dsimp only at hM ⊢
  have HR := Lib.hid hR
  have HM := Lib.hid hM
  have HC0 := Lib.hid (fun (wx : World) (hx : Rd wx b s) => wbyte_any hx hs)
  have hok0 := hs.byte
  generalize pByte s = r at *
  obtain ⟨x0, s0⟩ := r
  dsimp only at HC0 hok0 ⊢
  have HC1 := Lib.hid (fun (wx : World) (hx : Rd wx b s0) => wrstr_any hx hok0.1 64 (by decide) (by decide))
  have hok1 := hok0.1.str 64 (by decide)
  generalize pStr 64 s0 = r at *
  obtain ⟨x1, s1⟩ := r
  dsimp only at HC1 hok1 ⊢
  clear hR hM hs
  go_enter Try.func55, Try.ntmps55
  go_wp2_with fail
  refine (HC0.out _ HR.out).mono ?_
  rintro e w0 ⟨rfl, hto0⟩
  have HT0 := Lib.hid (hto0)
  clear hto0
  go_wp2_with fail
  refine (HC1.out _ HT0.out.2).mono ?_
  rintro e w1 ⟨rfl, hto1⟩
  have HT1 := Lib.hid (HT0.out.trans hto1)
  clear hto1
  have hb := HM.out.upd HT1.out.1 (fun e => hbg e.symm)
  have HB := Lib.hid hb
  have f16 := hb.cell 16
  have z16 := hb.frozen 16
  have f17 := hb.cell 17
  have z17 := hb.frozen 17
  simp only [List.getElem?_toArray, List.getElem?_cons_zero, List.getElem?_cons_succ] at f16 f17
  clear hb
  go_wp2_with fail
  go_end0
  refine ⟨rfl, ?_, ?_, ?_⟩
  · exact (Blk.far (Blk.far HT1.out.2 (p := ⟨g, 16, none⟩) hbg (.int .u8 x0)) (p := ⟨g, 17, none⟩) hbg (.string (strOfNums x1)))
  · simpa using ((HB.out.set_ 16 (.int .u8 x0)).set_ 17 (.string (strOfNums x1)))
  · exact (upd_sets (F := fun j => j = b ∨ j = g) (.inr rfl) (upd_sets (F := fun j => j = b ∨ j = g) (.inr rfl) (HT1.out.1.mono (G := fun j => j = b ∨ j = g) (fun _ _ h => .inl h)) 16 (.int .u8 x0)) 17 (.string (strOfNums x1)))

set_option maxRecDepth 100000 in
set_option maxHeartbeats 2000000 in
theorem nd_take {w : World} {b g : Nat} {s : Rs} (hR : Rd w b s) (hs : RdOk s) (m : Ms) {Av Ai : Option Addr} {nv cv ni ci : Nat} (hM : Blk w g 34 (msCells m (.slice Av nv cv) (.slice Ai ni ci))) :
    Calls Try.prog 60 #[.pointer (some ⟨b, 0, none⟩), .pointer (some ⟨g, 0, none⟩)] w fun e w' => e = .returned (.tuple #[]) ∧ Rd w' b (ptTake (m, s) .node).2 ∧ Blk w' g 34 (msCells (ptTake (m, s) .node).1 (.slice Av nv cv) (.slice Ai ni ci)) ∧ Upd (fun j => j = b ∨ j = g) w w' := by
  have hbg : b ≠ g := Blk.ne_ hR hM (by decide)
  obtain ⟨kind, bn, br, base, slot, node, val, votes, items, ⟨client, seq, ckind, key, old, new, cset⟩, code, text⟩ := m
  unfold ptTake msCells at *
  dsimp only at hM ⊢
  have HR := Lib.hid hR
  have HM := Lib.hid hM
  have HC0 := Lib.hid (fun (wx : World) (hx : Rd wx b s) => wbyte_any hx hs)
  have hok0 := hs.byte
  generalize pByte s = r at *
  obtain ⟨x0, s0⟩ := r
  dsimp only at HC0 hok0 ⊢
  clear hR hM hs
  go_enter Try.func60, Try.ntmps60
  go_wp2_with fail
  refine (HC0.out _ HR.out).mono ?_
  rintro e w0 ⟨rfl, hto0⟩
  have HT0 := Lib.hid (hto0)
  clear hto0
  have hb := HM.out.upd HT0.out.1 (fun e => hbg e.symm)
  have HB := Lib.hid hb
  have f5 := hb.cell 5
  have z5 := hb.frozen 5
  simp only [List.getElem?_toArray, List.getElem?_cons_zero, List.getElem?_cons_succ] at f5
  clear hb
  go_wp2_with fail
  go_end0
  refine ⟨rfl, ?_, ?_, ?_⟩
  · exact (Blk.far HT0.out.2 (p := ⟨g, 5, none⟩) hbg (.int .u8 x0))
  · simpa using (HB.out.set_ 5 (.int .u8 x0))
  · exact (upd_sets (F := fun j => j = b ∨ j = g) (.inr rfl) (HT0.out.1.mono (G := fun j => j = b ∨ j = g) (fun _ _ h => .inl h)) 5 (.int .u8 x0))

set_option maxRecDepth 100000 in
set_option maxHeartbeats 2000000 in
theorem by_take {w : World} {b g : Nat} {s : Rs} (hR : Rd w b s) (hs : RdOk s) (m : Ms) {Av Ai : Option Addr} {nv cv ni ci : Nat} (hM : Blk w g 34 (msCells m (.slice Av nv cv) (.slice Ai ni ci))) :
    Calls Try.prog 65 #[.pointer (some ⟨b, 0, none⟩), .pointer (some ⟨g, 0, none⟩)] w fun e w' => e = .returned (.tuple #[]) ∧ Rd w' b (ptTake (m, s) .byy).2 ∧ Blk w' g 34 (msCells (ptTake (m, s) .byy).1 (.slice Av nv cv) (.slice Ai ni ci)) ∧ Upd (fun j => j = b ∨ j = g) w w' := by
  have hbg : b ≠ g := Blk.ne_ hR hM (by decide)
  obtain ⟨kind, bn, br, base, slot, node, val, votes, items, ⟨client, seq, ckind, key, old, new, cset⟩, code, text⟩ := m
  unfold ptTake msCells at *
  dsimp only at hM ⊢
  have HR := Lib.hid hR
  have HM := Lib.hid hM
  have HC0 := Lib.hid (fun (wx : World) (hx : Rd wx b s) => btake_any hx hs)
  have hok0 := hs.bal
  generalize pBal s = r at *
  obtain ⟨⟨x0, x1⟩, s0⟩ := r
  dsimp only at HC0 hok0 ⊢
  unfold balV at HC0
  clear hR hM hs
  go_enter Try.func65, Try.ntmps65
  go_wp2_with fail
  refine (HC0.out _ HR.out).mono ?_
  rintro e w0 ⟨rfl, hto0⟩
  have HT0 := Lib.hid (hto0)
  clear hto0
  have hb := HM.out.upd HT0.out.1 (fun e => hbg e.symm)
  have HB := Lib.hid hb
  have f1 := hb.cell 1
  have z1 := hb.frozen 1
  have f2 := hb.cell 2
  have z2 := hb.frozen 2
  simp only [List.getElem?_toArray, List.getElem?_cons_zero, List.getElem?_cons_succ] at f1 f2
  clear hb
  go_wp2_with fail
  go_end0
  refine ⟨rfl, ?_, ?_, ?_⟩
  · exact (Blk.far (Blk.far HT0.out.2 (p := ⟨g, 1, none⟩) hbg (.int .u64 x0)) (p := ⟨g, 2, none⟩) hbg (.int .u8 x1))
  · simpa using ((HB.out.set_ 1 (.int .u64 x0)).set_ 2 (.int .u8 x1))
  · exact (upd_sets (F := fun j => j = b ∨ j = g) (.inr rfl) (upd_sets (F := fun j => j = b ∨ j = g) (.inr rfl) (HT0.out.1.mono (G := fun j => j = b ∨ j = g) (fun _ _ h => .inl h)) 1 (.int .u64 x0)) 2 (.int .u8 x1))

set_option maxRecDepth 100000 in
set_option maxHeartbeats 2000000 in
theorem bs_take {w : World} {b g : Nat} {s : Rs} (hR : Rd w b s) (hs : RdOk s) (m : Ms) {Av Ai : Option Addr} {nv cv ni ci : Nat} (hM : Blk w g 34 (msCells m (.slice Av nv cv) (.slice Ai ni ci))) :
    Calls Try.prog 73 #[.pointer (some ⟨b, 0, none⟩), .pointer (some ⟨g, 0, none⟩)] w fun e w' => e = .returned (.tuple #[]) ∧ Rd w' b (ptTake (m, s) .base).2 ∧ Blk w' g 34 (msCells (ptTake (m, s) .base).1 (.slice Av nv cv) (.slice Ai ni ci)) ∧ Upd (fun j => j = b ∨ j = g) w w' := by
  have hbg : b ≠ g := Blk.ne_ hR hM (by decide)
  obtain ⟨kind, bn, br, base, slot, node, val, votes, items, ⟨client, seq, ckind, key, old, new, cset⟩, code, text⟩ := m
  unfold ptTake msCells at *
  dsimp only at hM ⊢
  have HR := Lib.hid hR
  have HM := Lib.hid hM
  have HC0 := Lib.hid (fun (wx : World) (hx : Rd wx b s) => wrnum_any hx hs)
  have hok0 := hs.num
  generalize pNum s = r at *
  obtain ⟨x0, s0⟩ := r
  dsimp only at HC0 hok0 ⊢
  clear hR hM hs
  go_enter Try.func73, Try.ntmps73
  go_wp2_with fail
  refine (HC0.out _ HR.out).mono ?_
  rintro e w0 ⟨rfl, hto0⟩
  have HT0 := Lib.hid (hto0)
  clear hto0
  have hb := HM.out.upd HT0.out.1 (fun e => hbg e.symm)
  have HB := Lib.hid hb
  have f3 := hb.cell 3
  have z3 := hb.frozen 3
  simp only [List.getElem?_toArray, List.getElem?_cons_zero, List.getElem?_cons_succ] at f3
  clear hb
  go_wp2_with fail
  go_end0
  refine ⟨rfl, ?_, ?_, ?_⟩
  · exact (Blk.far HT0.out.2 (p := ⟨g, 3, none⟩) hbg (.int .u64 x0))
  · simpa using (HB.out.set_ 3 (.int .u64 x0))
  · exact (upd_sets (F := fun j => j = b ∨ j = g) (.inr rfl) (HT0.out.1.mono (G := fun j => j = b ∨ j = g) (fun _ _ h => .inl h)) 3 (.int .u64 x0))

set_option maxRecDepth 100000 in
set_option maxHeartbeats 2000000 in
theorem up_take {w : World} {b g : Nat} {s : Rs} (hR : Rd w b s) (hs : RdOk s) (m : Ms) {Av Ai : Option Addr} {nv cv ni ci : Nat} (hM : Blk w g 34 (msCells m (.slice Av nv cv) (.slice Ai ni ci))) :
    Calls Try.prog 77 #[.pointer (some ⟨b, 0, none⟩), .pointer (some ⟨g, 0, none⟩)] w fun e w' => e = .returned (.tuple #[]) ∧ Rd w' b (ptTake (m, s) .upto).2 ∧ Blk w' g 34 (msCells (ptTake (m, s) .upto).1 (.slice Av nv cv) (.slice Ai ni ci)) ∧ Upd (fun j => j = b ∨ j = g) w w' := by
  have hbg : b ≠ g := Blk.ne_ hR hM (by decide)
  obtain ⟨kind, bn, br, base, slot, node, val, votes, items, ⟨client, seq, ckind, key, old, new, cset⟩, code, text⟩ := m
  unfold ptTake msCells at *
  dsimp only at hM ⊢
  have HR := Lib.hid hR
  have HM := Lib.hid hM
  have HC0 := Lib.hid (fun (wx : World) (hx : Rd wx b s) => wrnum_any hx hs)
  have hok0 := hs.num
  generalize pNum s = r at *
  obtain ⟨x0, s0⟩ := r
  dsimp only at HC0 hok0 ⊢
  clear hR hM hs
  go_enter Try.func77, Try.ntmps77
  go_wp2_with fail
  refine (HC0.out _ HR.out).mono ?_
  rintro e w0 ⟨rfl, hto0⟩
  have HT0 := Lib.hid (hto0)
  clear hto0
  have hb := HM.out.upd HT0.out.1 (fun e => hbg e.symm)
  have HB := Lib.hid hb
  have f4 := hb.cell 4
  have z4 := hb.frozen 4
  simp only [List.getElem?_toArray, List.getElem?_cons_zero, List.getElem?_cons_succ] at f4
  clear hb
  go_wp2_with fail
  go_end0
  refine ⟨rfl, ?_, ?_, ?_⟩
  · exact (Blk.far HT0.out.2 (p := ⟨g, 4, none⟩) hbg (.int .u64 x0))
  · simpa using (HB.out.set_ 4 (.int .u64 x0))
  · exact (upd_sets (F := fun j => j = b ∨ j = g) (.inr rfl) (HT0.out.1.mono (G := fun j => j = b ∨ j = g) (fun _ _ h => .inl h)) 4 (.int .u64 x0))

set_option maxRecDepth 100000 in
set_option maxHeartbeats 2000000 in
theorem va_take {w : World} {b g : Nat} {s : Rs} (hR : Rd w b s) (hs : RdOk s) (m : Ms) {Av Ai : Option Addr} {nv cv ni ci : Nat} (hM : Blk w g 34 (msCells m (.slice Av nv cv) (.slice Ai ni ci))) :
    Calls Try.prog 88 #[.pointer (some ⟨b, 0, none⟩), .pointer (some ⟨g, 0, none⟩)] w fun e w' => e = .returned (.tuple #[]) ∧ Rd w' b (ptTake (m, s) .value).2 ∧ Blk w' g 34 (msCells (ptTake (m, s) .value).1 (.slice Av nv cv) (.slice Ai ni ci)) ∧ Upd (fun j => j = b ∨ j = g) w w' := by
  have hbg : b ≠ g := Blk.ne_ hR hM (by decide)
  obtain ⟨kind, bn, br, base, slot, node, val, votes, items, ⟨client, seq, ckind, key, old, new, cset⟩, code, text⟩ := m
  unfold ptTake msCells at *
  dsimp only at hM ⊢
  have HR := Lib.hid hR
  have HM := Lib.hid hM
  have HC0 := Lib.hid (fun (wx : World) (hx : Rd wx b s) => wrstr_any hx hs 65536 (by decide) (by decide))
  have hok0 := hs.str 65536 (by decide)
  generalize pStr 65536 s = r at *
  obtain ⟨x0, s0⟩ := r
  dsimp only at HC0 hok0 ⊢
  clear hR hM hs
  go_enter Try.func88, Try.ntmps88
  go_wp2_with fail
  refine (HC0.out _ HR.out).mono ?_
  rintro e w0 ⟨rfl, hto0⟩
  have HT0 := Lib.hid (hto0)
  clear hto0
  have hb := HM.out.upd HT0.out.1 (fun e => hbg e.symm)
  have HB := Lib.hid hb
  have f6 := hb.cell 6
  have z6 := hb.frozen 6
  simp only [List.getElem?_toArray, List.getElem?_cons_zero, List.getElem?_cons_succ] at f6
  clear hb
  go_wp2_with fail
  go_end0
  refine ⟨rfl, ?_, ?_, ?_⟩
  · exact (Blk.far HT0.out.2 (p := ⟨g, 6, none⟩) hbg (.string (strOfNums x0)))
  · simpa using (HB.out.set_ 6 (.string (strOfNums x0)))
  · exact (upd_sets (F := fun j => j = b ∨ j = g) (.inr rfl) (HT0.out.1.mono (G := fun j => j = b ∨ j = g) (fun _ _ h => .inl h)) 6 (.string (strOfNums x0)))

end Go.Proofs.Ytaielcokfpodaaa
