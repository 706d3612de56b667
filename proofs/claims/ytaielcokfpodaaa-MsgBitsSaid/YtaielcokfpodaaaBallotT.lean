/-
  Layer 7, ballots: taken; may one be told. Conditions: a reader of at most 10^12 bytes.
-/
import Derived.Test.YtaielcokfpodaaaBallot
namespace Go.Proofs.Ytaielcokfpodaaa
open Go.RowKit

theorem RdOk.rbelow {s : Rs} (h : RdOk s) (m : Int) (m0 : 0 < m) : RdOk (pBelow m s).2 ∧ 0 ≤ (pBelow m s).1 ∧ (pBelow m s).1 < m := by
  obtain ⟨h1, h2, _⟩ := h.num
  obtain ⟨g1, g2, g3, _⟩ := h1.below (pNum s).1 (m - 1) h2 (by omega)
  exact ⟨g1, g2, by unfold pBelow; omega⟩
theorem RdOk.str {s : Rs} (h : RdOk s) (most : Int) (m0 : 0 ≤ most) : RdOk (pStr most s).2 ∧ Byt (pStr most s).1 ∧ ((pStr most s).1.length : Int) ≤ most := by
  obtain ⟨h1, h2, _⟩ := h.num
  obtain ⟨g1, g2, g3, _⟩ := h1.below (pNum s).1 most h2 m0
  obtain ⟨k1, k2⟩ := g1.take (pBelowV (pNum s).1 most (pNum s).2).1.toNat
  have := pTake_le (pBelowV (pNum s).1 most (pNum s).2).1.toNat (pBelowV (pNum s).1 most (pNum s).2).2
  exact ⟨k1, k2, by unfold pStr; omega⟩
theorem RdOk.bad {s : Rs} (h : RdOk s) : RdOk (pBad s) := by
  unfold pBad
  split
  · exact ⟨Byt.nil, by simp⟩
  · exact h
theorem Rd.lt {w : World} {b : Nat} {s : Rs} (h : Rd w b s) : b < w.heap.size := Blk.lt h
theorem Rd.upd {w w' : World} {b : Nat} {s : Rs} {F : Nat → Prop} (h : Rd w b s) (hu : Upd F w w') (hf : ¬ F b) : Rd w' b s := Blk.upd h hu hf
theorem Rd.still {w w' : World} {b : Nat} {s : Rs} (h : Rd w b s) (hu : Upd (fun _ => False) w w') : RdTo w b s w' := ⟨hu.mono (fun _ _ h => h.elim), h.upd hu id⟩

theorem RdOk.bal {s : Rs} (h : RdOk s) : RdOk (pBal s).2 ∧ (0 ≤ (pBal s).1.1 ∧ (pBal s).1.1 < 18446744073709551616) ∧ (0 ≤ (pBal s).1.2 ∧ (pBal s).1.2 ≤ 255) := by
  obtain ⟨h1, h2, h3⟩ := h.num
  obtain ⟨g1, g2, g3⟩ := h1.byte
  have hb := g1.bad
  have h0 : (0 : Int) ≤ 0 ∧ (0 : Int) < 18446744073709551616 ∧ (0 : Int) ≤ 255 := by omega
  unfold pBal
  simp only
  cases balB (pNum s).1 (pByte (pNum s).2).1
  · simp only [Bool.false_eq_true, if_false]
    split
    · exact ⟨hb, ⟨h2, h3⟩, g2, g3⟩
    · exact ⟨hb, ⟨h0.1, h0.2.1⟩, h0.1, h0.2.2⟩
  · simp only [if_true]
    split
    · exact ⟨g1, ⟨h2, h3⟩, g2, g3⟩
    · exact ⟨g1, ⟨h0.1, h0.2.1⟩, h0.1, h0.2.2⟩
theorem pBad_err (s : Rs) : (pBad s).2 ≠ 0 := by
  unfold pBad
  split
  · decide
  · assumption

set_option maxHeartbeats 2000000 in
theorem btake_any {w : World} {b : Nat} {s : Rs} (h : Rd w b s) (hs : RdOk s) :
    Calls Try.prog 66 #[.pointer (some ⟨b, 0, none⟩)] w fun e w' => e = .returned (balV (pBal s).1.1 (pBal s).1.2) ∧ RdTo w b (pBal s).2 w' := by
  have hbl := h.lt
  have HR := Lib.hid h
  have HN := Lib.hid (fun (wx : World) (hx : Rd wx b s) => wrnum_any hx hs)
  obtain ⟨h1, _, _⟩ := hs.num
  unfold pBal
  simp only
  generalize pNum s = r at *
  obtain ⟨x, t⟩ := r
  simp only at HN h1 ⊢
  have HB := Lib.hid (fun (wx : World) (hx : Rd wx b t) => wbyte_any hx h1)
  obtain ⟨g1, _, _⟩ := h1.byte
  generalize pByte t = r at *
  obtain ⟨y, u⟩ := r
  simp only at HB g1 ⊢
  clear h hs h1
  have HBAD := Lib.hid (fun (wx : World) (hx : Rd wx b u) => wbad_any hx)
  have HERR := Lib.hid (fun (wx : World) (t : Rs) (hx : Rd wx b t) => werr_any hx)
  have HCHK := Lib.hid (fun (wx : World) => bcheck_any x y wx)
  have HU := Lib.hid g1
  clear g1
  unfold balE at HCHK
  unfold balV at HCHK ⊢
  cases hbb : balB x y
  · rw [hbb] at HCHK
    simp only [Bool.false_eq_true, if_false] at HCHK ⊢
    have hpe := pBad_err u
    rw [if_neg hpe]
    have hpe' : ((pBad u).2 != 0) = true := bne_iff_ne.2 hpe
    generalize pBad u = u' at *
    clear hbb hpe
    go_enter Try.func66, Try.ntmps66
    go_wp2_with fail
    refine (HN.out _ (by exact Blk.alloc HR.out _)).mono ?_
    rintro e w1 ⟨rfl, hto1⟩
    have HT1 := Lib.hid hto1
    clear hto1
    go_wp2_with fail
    refine (HB.out _ HT1.out.2).mono ?_
    rintro e w2 ⟨rfl, hto2⟩
    have HT2 := Lib.hid (HT1.out.trans hto2)
    clear hto2
    go_wp2_with fail
    refine (HCHK.out _).mono ?_
    rintro e w3 ⟨rfl, hu3⟩
    have HU3 := Lib.hid hu3
    have HR3 : Hid (Rd w3 b u) := (Rd.upd HT2.out.2 ((Upd.refl (fun _ => False) _).alloc _) id).upd hu3 id
    have HB3 : Hid (Blk w3 w2.heap.size 25 #[.int .u64 x, .int .u8 y]) := (Blk.new w2 _ _).upd hu3 id
    clear hu3
    go_wp2_with fail
    refine (HBAD.out _ HR3.out).mono ?_
    rintro e w4 ⟨⟨_, rfl⟩, hto4⟩
    have HT4 := Lib.hid hto4
    clear hto4
    have hr0 : Blk w4 w.heap.size 25 #[.int .u64 0, .int .u8 0] := ((((Blk.new w _ _).upd HT2.out.1 (by omega)).alloc _).upd HU3.out id).upd HT4.out.1 (by omega)
    have hz2 := HT2.out.1.size
    simp only [World.size_alloc] at hz2
    have hr1 : Blk w4 w2.heap.size 25 #[.int .u64 x, .int .u8 y] := HB3.out.upd HT4.out.1 (by omega)
    have c0 := hr0.cell 0
    have c1 := hr0.cell 1
    have d0 := hr0.frozen 0
    have d1 := hr0.frozen 1
    have x0 := hr1.cell 0
    have x1 := hr1.cell 1
    simp only [List.getElem?_toArray, List.getElem?_cons_zero, List.getElem?_cons_succ] at c0 c1 x0 x1
    have HR0 := Lib.hid hr0
    have HF : Hid (RdTo w b u' w4) := by
      have a1 := HR.out.still ((Upd.refl _ w).alloc (.cells #[.int .u64 0, .int .u8 0] 25))
      have a2 := a1.trans HT2.out
      have a3 := a2.trans (Rd.still HT2.out.2 (((Upd.refl (fun _ => False) _).alloc (.cells #[.int .u64 x, .int .u8 y] 25)).trans HU3.out (fun _ _ h => h)))
      exact a3.trans HT4.out
    clear hr0 hr1
    go_wp2_with fail
    refine (HERR.out _ _ HT4.out.2).mono ?_
    rintro e w5 ⟨rfl, rfl⟩
    go_wp2_with fail
    have hB := (HR0.out.set_ 0 (.int .u64 0)).set_ 1 (.int .u8 0)
    have p0 := hB.cell 0
    have p1 := hB.cell 1
    simp at p0 p1
    refine bodyPost_ret (v := .agg #[.int .u64 0, .int .u8 0]) (by simp [results, Try.results66, go_sem, p0, p1]) rfl ⟨rfl, ?_⟩
    have hs2 : Upd (fun j => j = w.heap.size) w4 ((w4.setCell ⟨w.heap.size, 0, none⟩ (.int .u64 0)).setCell ⟨w.heap.size, 1, none⟩ (.int .u8 0)) := Upd.setCell (F := fun j => j = w.heap.size) (Upd.setCell (F := fun j => j = w.heap.size) (Upd.refl _ _) (p := ⟨w.heap.size, 0, none⟩) (.inl rfl) _) (p := ⟨w.heap.size, 1, none⟩) (.inl rfl) _
    exact ⟨HF.out.1.trans hs2 (fun i hi e => by omega), HF.out.2.upd hs2 (by omega)⟩
  rw [hbb] at HCHK
  simp only [if_true] at HCHK ⊢
  clear hbb HBAD
  by_cases he : u.2 = 0
  · rw [if_pos he]
    have he' : (u.2 != 0) = false := by simpa using he
    clear he
    go_enter Try.func66, Try.ntmps66
    go_wp2_with fail
    refine (HN.out _ (by exact Blk.alloc HR.out _)).mono ?_
    rintro e w1 ⟨rfl, hto1⟩
    have HT1 := Lib.hid hto1
    clear hto1
    go_wp2_with fail
    refine (HB.out _ HT1.out.2).mono ?_
    rintro e w2 ⟨rfl, hto2⟩
    have HT2 := Lib.hid (HT1.out.trans hto2)
    clear hto2
    go_wp2_with fail
    refine (HCHK.out _).mono ?_
    rintro e w3 ⟨rfl, hu3⟩
    have HU3 := Lib.hid hu3
    have HR3 : Hid (Rd w3 b u) := (Rd.upd HT2.out.2 ((Upd.refl (fun _ => False) _).alloc _) id).upd hu3 id
    have HB3 : Hid (Blk w3 w2.heap.size 25 #[.int .u64 x, .int .u8 y]) := (Blk.new w2 _ _).upd hu3 id
    clear hu3
    have HT4 : Hid (RdTo w3 b u w3) := HR3.out.to
    have hr0 : Blk w3 w.heap.size 25 #[.int .u64 0, .int .u8 0] := ((((Blk.new w _ _).upd HT2.out.1 (by omega)).alloc _).upd HU3.out id).upd HT4.out.1 (by omega)
    have hz2 := HT2.out.1.size
    simp only [World.size_alloc] at hz2
    have hr1 : Blk w3 w2.heap.size 25 #[.int .u64 x, .int .u8 y] := HB3.out.upd HT4.out.1 (by omega)
    have c0 := hr0.cell 0
    have c1 := hr0.cell 1
    have d0 := hr0.frozen 0
    have d1 := hr0.frozen 1
    have x0 := hr1.cell 0
    have x1 := hr1.cell 1
    simp only [List.getElem?_toArray, List.getElem?_cons_zero, List.getElem?_cons_succ] at c0 c1 x0 x1
    have HR0 := Lib.hid hr0
    have HF : Hid (RdTo w b u w3) := by
      have a1 := HR.out.still ((Upd.refl _ w).alloc (.cells #[.int .u64 0, .int .u8 0] 25))
      have a2 := a1.trans HT2.out
      have a3 := a2.trans (Rd.still HT2.out.2 (((Upd.refl (fun _ => False) _).alloc (.cells #[.int .u64 x, .int .u8 y] 25)).trans HU3.out (fun _ _ h => h)))
      exact a3.trans HT4.out
    clear hr0 hr1
    go_wp2_with fail
    refine (HERR.out _ _ HT4.out.2).mono ?_
    rintro e w5 ⟨rfl, rfl⟩
    go_wp2_with fail
    have hB := (HR0.out.set_ 0 (.int .u64 x)).set_ 1 (.int .u8 y)
    have p0 := hB.cell 0
    have p1 := hB.cell 1
    simp at p0 p1
    refine bodyPost_ret (v := .agg #[.int .u64 x, .int .u8 y]) (by simp [results, Try.results66, go_sem, p0, p1]) rfl ⟨rfl, ?_⟩
    have hs2 : Upd (fun j => j = w.heap.size) w3 ((w3.setCell ⟨w.heap.size, 0, none⟩ (.int .u64 x)).setCell ⟨w.heap.size, 1, none⟩ (.int .u8 y)) := Upd.setCell (F := fun j => j = w.heap.size) (Upd.setCell (F := fun j => j = w.heap.size) (Upd.refl _ _) (p := ⟨w.heap.size, 0, none⟩) (.inl rfl) _) (p := ⟨w.heap.size, 1, none⟩) (.inl rfl) _
    exact ⟨HF.out.1.trans hs2 (fun i hi e => by omega), HF.out.2.upd hs2 (by omega)⟩
  · rw [if_neg he]
    have he' : (u.2 != 0) = true := bne_iff_ne.2 he
    clear he
    go_enter Try.func66, Try.ntmps66
    go_wp2_with fail
    refine (HN.out _ (by exact Blk.alloc HR.out _)).mono ?_
    rintro e w1 ⟨rfl, hto1⟩
    have HT1 := Lib.hid hto1
    clear hto1
    go_wp2_with fail
    refine (HB.out _ HT1.out.2).mono ?_
    rintro e w2 ⟨rfl, hto2⟩
    have HT2 := Lib.hid (HT1.out.trans hto2)
    clear hto2
    go_wp2_with fail
    refine (HCHK.out _).mono ?_
    rintro e w3 ⟨rfl, hu3⟩
    have HU3 := Lib.hid hu3
    have HR3 : Hid (Rd w3 b u) := (Rd.upd HT2.out.2 ((Upd.refl (fun _ => False) _).alloc _) id).upd hu3 id
    have HB3 : Hid (Blk w3 w2.heap.size 25 #[.int .u64 x, .int .u8 y]) := (Blk.new w2 _ _).upd hu3 id
    clear hu3
    have HT4 : Hid (RdTo w3 b u w3) := HR3.out.to
    have hr0 : Blk w3 w.heap.size 25 #[.int .u64 0, .int .u8 0] := ((((Blk.new w _ _).upd HT2.out.1 (by omega)).alloc _).upd HU3.out id).upd HT4.out.1 (by omega)
    have hz2 := HT2.out.1.size
    simp only [World.size_alloc] at hz2
    have hr1 : Blk w3 w2.heap.size 25 #[.int .u64 x, .int .u8 y] := HB3.out.upd HT4.out.1 (by omega)
    have c0 := hr0.cell 0
    have c1 := hr0.cell 1
    have d0 := hr0.frozen 0
    have d1 := hr0.frozen 1
    have x0 := hr1.cell 0
    have x1 := hr1.cell 1
    simp only [List.getElem?_toArray, List.getElem?_cons_zero, List.getElem?_cons_succ] at c0 c1 x0 x1
    have HR0 := Lib.hid hr0
    have HF : Hid (RdTo w b u w3) := by
      have a1 := HR.out.still ((Upd.refl _ w).alloc (.cells #[.int .u64 0, .int .u8 0] 25))
      have a2 := a1.trans HT2.out
      have a3 := a2.trans (Rd.still HT2.out.2 (((Upd.refl (fun _ => False) _).alloc (.cells #[.int .u64 x, .int .u8 y] 25)).trans HU3.out (fun _ _ h => h)))
      exact a3.trans HT4.out
    clear hr0 hr1
    go_wp2_with fail
    refine (HERR.out _ _ HT4.out.2).mono ?_
    rintro e w5 ⟨rfl, rfl⟩
    go_wp2_with fail
    have hB := (HR0.out.set_ 0 (.int .u64 0)).set_ 1 (.int .u8 0)
    have p0 := hB.cell 0
    have p1 := hB.cell 1
    simp at p0 p1
    refine bodyPost_ret (v := .agg #[.int .u64 0, .int .u8 0]) (by simp [results, Try.results66, go_sem, p0, p1]) rfl ⟨rfl, ?_⟩
    have hs2 : Upd (fun j => j = w.heap.size) w3 ((w3.setCell ⟨w.heap.size, 0, none⟩ (.int .u64 0)).setCell ⟨w.heap.size, 1, none⟩ (.int .u8 0)) := Upd.setCell (F := fun j => j = w.heap.size) (Upd.setCell (F := fun j => j = w.heap.size) (Upd.refl _ _) (p := ⟨w.heap.size, 0, none⟩) (.inl rfl) _) (p := ⟨w.heap.size, 1, none⟩) (.inl rfl) _
    exact ⟨HF.out.1.trans hs2 (fun i hi e => by omega), HF.out.2.upd hs2 (by omega)⟩
end Go.Proofs.Ytaielcokfpodaaa
