/-
  Layer 9, commands: taken. Conditions: a reader of at most 10^12 bytes.
-/
import Derived.Test.YtaielcokfpodaaaCmdB
namespace Go.Proofs.Ytaielcokfpodaaa
open Go.RowKit

theorem wfC0 : WfC cm0 := ⟨by decide, by decide, by decide, Byt.nil, Byt.nil, Byt.nil, by decide⟩
theorem RdOk.cmd {s : Rs} (h : RdOk s) : RdOk (pCmd s).2 ∧ WfC (pCmd s).1 ∧ (pCmd s).1.key.length ≤ 16 ∧ (pCmd s).1.old.length ≤ 64 ∧ (pCmd s).1.new.length ≤ 64 := by
  obtain ⟨a1, a2, a3⟩ := h.byte
  obtain ⟨b1, b2, b3⟩ := a1.rbelow 4294967296 (by decide)
  obtain ⟨c1, c2, c3⟩ := b1.byte
  obtain ⟨d1, d2, d3⟩ := c1.str 16 (by decide)
  obtain ⟨e1, e2, e3⟩ := d1.str 64 (by decide)
  obtain ⟨f1, f2, f3⟩ := e1.str 64 (by decide)
  obtain ⟨g1, g2, g3⟩ := f1.byte
  have hb := g1.bad
  have h0 : RdOk (pBad (pByte (pStr 64 (pStr 64 (pStr 16 (pByte (pBelow 4294967296 (pByte s).2).2).2).2).2).2).2) := hb
  unfold pCmd
  simp only
  have hwf : WfC ⟨(pByte s).1, (pBelow 4294967296 (pByte s).2).1, (pByte (pBelow 4294967296 (pByte s).2).2).1, (pStr 16 (pByte (pBelow 4294967296 (pByte s).2).2).2).1, (pStr 64 (pStr 16 (pByte (pBelow 4294967296 (pByte s).2).2).2).2).1, (pStr 64 (pStr 64 (pStr 16 (pByte (pBelow 4294967296 (pByte s).2).2).2).2).2).1, (pByte (pStr 64 (pStr 64 (pStr 16 (pByte (pBelow 4294967296 (pByte s).2).2).2).2).2).2).1⟩ := ⟨⟨a2, a3⟩, ⟨b2, b3⟩, ⟨c2, c3⟩, d2, e2, f2, ⟨g2, g3⟩⟩
  split
  · split
    · exact ⟨g1, hwf, by dsimp only; omega, by dsimp only; omega, by dsimp only; omega⟩
    · exact ⟨g1, wfC0, Nat.zero_le 16, Nat.zero_le 64, Nat.zero_le 64⟩
  · split
    · exact ⟨h0, hwf, by dsimp only; omega, by dsimp only; omega, by dsimp only; omega⟩
    · exact ⟨h0, wfC0, Nat.zero_le 16, Nat.zero_le 64, Nat.zero_le 64⟩

set_option maxRecDepth 100000 in
set_option maxHeartbeats 8000000 in
theorem ctake_any {w : World} {b : Nat} {s : Rs} (h : Rd w b s) (hs : RdOk s) :
    Calls Try.prog 44 #[.pointer (some ⟨b, 0, none⟩)] w fun e w' => e = .returned (cmdV (pCmd s).1) ∧ RdTo w b (pCmd s).2 w' := by
  have hbl := h.lt
  have HR := Lib.hid h
  unfold pCmd
  simp only
  have HA := Lib.hid (fun (wx : World) (hx : Rd wx b s) => wbyte_any hx hs)
  obtain ⟨gA1, gA2, gA3⟩ := hs.byte
  generalize pByte s = r at *
  obtain ⟨x1, s1⟩ := r
  simp only at HA gA1 gA2 gA3 ⊢
  have HB := Lib.hid (fun (wx : World) (hx : Rd wx b s1) => wrbelow_any hx gA1 4294967296 (by decide) (by decide))
  obtain ⟨gB1, gB2, gB3⟩ := gA1.rbelow 4294967296 (by decide)
  generalize pBelow 4294967296 s1 = r at *
  obtain ⟨x2, s2⟩ := r
  simp only at HB gB1 gB2 gB3 ⊢
  have HC := Lib.hid (fun (wx : World) (hx : Rd wx b s2) => wbyte_any hx gB1)
  obtain ⟨gC1, gC2, gC3⟩ := gB1.byte
  generalize pByte s2 = r at *
  obtain ⟨x3, s3⟩ := r
  simp only at HC gC1 gC2 gC3 ⊢
  have HD := Lib.hid (fun (wx : World) (hx : Rd wx b s3) => wrstr_any hx gC1 16 (by decide) (by decide))
  obtain ⟨gD1, gD2, gD3⟩ := gC1.str 16 (by decide)
  generalize pStr 16 s3 = r at *
  obtain ⟨x4, s4⟩ := r
  simp only at HD gD1 gD2 gD3 ⊢
  have HE := Lib.hid (fun (wx : World) (hx : Rd wx b s4) => wrstr_any hx gD1 64 (by decide) (by decide))
  obtain ⟨gE1, gE2, gE3⟩ := gD1.str 64 (by decide)
  generalize pStr 64 s4 = r at *
  obtain ⟨x5, s5⟩ := r
  simp only at HE gE1 gE2 gE3 ⊢
  have HF := Lib.hid (fun (wx : World) (hx : Rd wx b s5) => wrstr_any hx gE1 64 (by decide) (by decide))
  obtain ⟨gF1, gF2, gF3⟩ := gE1.str 64 (by decide)
  generalize pStr 64 s5 = r at *
  obtain ⟨x6, s6⟩ := r
  simp only at HF gF1 gF2 gF3 ⊢
  have HG := Lib.hid (fun (wx : World) (hx : Rd wx b s6) => wbyte_any hx gF1)
  obtain ⟨gG1, gG2, gG3⟩ := gF1.byte
  generalize pByte s6 = r at *
  obtain ⟨x7, s7⟩ := r
  simp only at HG gG1 gG2 gG3 ⊢
  have hx4l : x4.length ≤ 1000000000 := by omega
  have hx5l : x5.length ≤ 1000000000 := by omega
  have hx6l : x6.length ≤ 1000000000 := by omega
  have HCHK := Lib.hid (fun (wx : World) => ccheck_any ⟨x1, x2, x3, x4, x5, x6, x7⟩ ⟨gC2, gC3⟩ ⟨hx4l, hx5l, hx6l⟩ wx)
  have HBAD := Lib.hid (fun (wx : World) (hx : Rd wx b s7) => wbad_any hx)
  have HERR := Lib.hid (fun (wx : World) (t : Rs) (hx : Rd wx b t) => werr_any hx)
  have hwr : x2 % 4294967296 = x2 := by omega
  have HWR := Lib.hid hwr
  have HX2 := Lib.hid (And.intro gB2 gB3)
  clear h hs gA1 gA2 gA3 gB1 gC1 gC2 gC3 gD1 gD2 gD3 gE1 gE2 gE3 gF1 gF2 gF3 gG1 gG2 gG3 hx4l hx5l hx6l hwr
  unfold cmdE at HCHK
  unfold cmdV at HCHK ⊢
  cases hbb : cmdMay ⟨x1, x2, x3, x4, x5, x6, x7⟩
  · rw [hbb] at HCHK
    simp only [Bool.false_eq_true, if_false] at HCHK ⊢
    have hpe := pBad_err s7
    rw [if_neg hpe]
    have hpe' : ((pBad s7).2 != 0) = true := bne_iff_ne.2 hpe
    generalize pBad s7 = s8 at *
    clear hbb hpe
    go_enter Try.func44, Try.ntmps44
    go_wp2_with fail
    refine (HA.out _ (by exact Blk.alloc HR.out _)).mono ?_
    rintro e w1 ⟨rfl, hto1⟩
    have HT1 := Lib.hid ((HR.out.still ((Upd.refl _ w).alloc (.cells #[.int .u8 0, .int .u32 0, .int .u8 0, .string { data := #[] }, .string { data := #[] }, .string { data := #[] }, .int .u8 0] 30))).trans hto1)
    have HV1 := Lib.hid hto1.1
    clear hto1
    go_wp2_with fail
    refine (HB.out _ HT1.out.2).mono ?_
    rintro e w2 ⟨rfl, hto2⟩
    have HT2 := Lib.hid (HT1.out.trans hto2)
    have HV2 := Lib.hid (HV1.out.trans hto2.1 (fun _ _ h => h))
    clear hto2
    have q0 := HX2.out.1
    have q1 := HX2.out.2
    go_wp2_with fail
    refine (HC.out _ HT2.out.2).mono ?_
    rintro e w3 ⟨rfl, hto3⟩
    have HT3 := Lib.hid (HT2.out.trans hto3)
    have HV3 := Lib.hid (HV2.out.trans hto3.1 (fun _ _ h => h))
    have hz3 := HV3.out.size
    simp only [World.size_alloc] at hz3
    clear hto3
    go_wp2_with fail
    refine (HD.out _ (by exact Blk.alloc HT3.out.2 _)).mono ?_
    rintro e w4 ⟨rfl, hto4⟩
    have HT4 := Lib.hid ((HT3.out.2.still ((Upd.refl _ w3).alloc (.cells #[.int .u8 x1, .int .u32 x2, .int .u8 x3, .string { data := #[] }, .string { data := #[] }, .string { data := #[] }, .int .u8 0] 30))).trans hto4)
    have hb4 : Blk w4 w3.heap.size 30 #[.int .u8 x1, .int .u32 x2, .int .u8 x3, .string { data := #[] }, .string { data := #[] }, .string { data := #[] }, .int .u8 0] := (Blk.new w3 _ _).upd hto4.1 (by omega)
    have HB4 := Lib.hid hb4
    clear hto4 hb4 q0 q1
    go_wp2_with fail
    refine (HE.out _ HT4.out.2).mono ?_
    rintro e w5 ⟨rfl, hto5⟩
    have HT5 := Lib.hid (HT4.out.trans hto5)
    have HB5 := Lib.hid (HB4.out.upd hto5.1 (by omega))
    clear hto5
    go_wp2_with fail
    refine (HF.out _ HT5.out.2).mono ?_
    rintro e w6 ⟨rfl, hto6⟩
    have HT6 := Lib.hid (HT5.out.trans hto6)
    have hb6 := HB5.out.upd hto6.1 (by omega)
    have HB6 := Lib.hid hb6
    have f3 : w6.cell? ⟨w3.heap.size, 3, none⟩ = some (.string { data := #[] }) := hb6.cell 3
    have f4 : w6.cell? ⟨w3.heap.size, 4, none⟩ = some (.string { data := #[] }) := hb6.cell 4
    have f5 : w6.cell? ⟨w3.heap.size, 5, none⟩ = some (.string { data := #[] }) := hb6.cell 5
    have z3 := hb6.frozen 3
    have z4 := hb6.frozen 4
    have z5 := hb6.frozen 5
    clear hto6 hb6
    go_wp2_with fail
    obtain ⟨W6, hW6⟩ : ∃ W6, W6 = ((w6.setCell ⟨w3.heap.size, 3, none⟩ (.string (strOfNums x4))).setCell ⟨w3.heap.size, 4, none⟩ (.string (strOfNums x5))).setCell ⟨w3.heap.size, 5, none⟩ (.string (strOfNums x6)) := ⟨_, rfl⟩
    rw [← hW6]
    have hu6 : Upd (fun j => j = w3.heap.size) w6 W6 := by rw [hW6]; exact Upd.setCell (F := fun j => j = w3.heap.size) (Upd.setCell (F := fun j => j = w3.heap.size) (Upd.setCell (F := fun j => j = w3.heap.size) (Upd.refl _ _) (p := ⟨w3.heap.size, 3, none⟩) (.inl rfl) _) (p := ⟨w3.heap.size, 4, none⟩) (.inl rfl) _) (p := ⟨w3.heap.size, 5, none⟩) (.inl rfl) _
    have HBW6 : Hid (Blk W6 w3.heap.size 30 #[.int .u8 x1, .int .u32 x2, .int .u8 x3, .string (strOfNums x4), .string (strOfNums x5), .string (strOfNums x6), .int .u8 0]) := by
      show Blk _ _ _ _
      rw [hW6]; simpa using ((HB6.out.set_ 3 (.string (strOfNums x4))).set_ 4 (.string (strOfNums x5))).set_ 5 (.string (strOfNums x6))
    have HRW6 : Hid (Rd W6 b s6) := HT6.out.2.upd hu6 (by omega)
    have HUW6 := Lib.hid hu6
    clear hW6 hu6 f3 f4 f5 z3 z4 z5
    refine (HG.out _ HRW6.out).mono ?_
    rintro e w7 ⟨rfl, hto7⟩
    have hb7 := HBW6.out.upd hto7.1 (by omega)
    have HB7 := Lib.hid hb7
    have HT7 := Lib.hid hto7
    have f6 : w7.cell? ⟨w3.heap.size, 6, none⟩ = some (.int .u8 0) := hb7.cell 6
    have z6 := hb7.frozen 6
    have f0 : w7.cell? ⟨w3.heap.size, 0, none⟩ = some (.int .u8 x1) := hb7.cell 0
    have f1 : w7.cell? ⟨w3.heap.size, 1, none⟩ = some (.int .u32 x2) := hb7.cell 1
    have f2 : w7.cell? ⟨w3.heap.size, 2, none⟩ = some (.int .u8 x3) := hb7.cell 2
    have f3 : w7.cell? ⟨w3.heap.size, 3, none⟩ = some (.string (strOfNums x4)) := hb7.cell 3
    have f4 : w7.cell? ⟨w3.heap.size, 4, none⟩ = some (.string (strOfNums x5)) := hb7.cell 4
    have f5 : w7.cell? ⟨w3.heap.size, 5, none⟩ = some (.string (strOfNums x6)) := hb7.cell 5
    clear hto7 hb7
    go_wp2_with fail
    obtain ⟨W7, hW7⟩ : ∃ W7, W7 = w7.setCell ⟨w3.heap.size, 6, none⟩ (.int .u8 x7) := ⟨_, rfl⟩
    rw [← hW7]
    have hu7 : Upd (fun j => j = w3.heap.size) w7 W7 := by rw [hW7]; exact Upd.setCell (F := fun j => j = w3.heap.size) (Upd.refl _ _) (p := ⟨w3.heap.size, 6, none⟩) (.inl rfl) _
    have HBW7 : Hid (Blk W7 w3.heap.size 30 #[.int .u8 x1, .int .u32 x2, .int .u8 x3, .string (strOfNums x4), .string (strOfNums x5), .string (strOfNums x6), .int .u8 x7]) := by
      show Blk _ _ _ _
      rw [hW7]; simpa using HB7.out.set_ 6 (.int .u8 x7)
    have HRW7 : Hid (Rd W7 b s7) := HT7.out.2.upd hu7 (by omega)
    have HUW7 := Lib.hid hu7
    clear hW7 hu7 f0 f1 f2 f3 f4 f5 f6 z6
    refine (HCHK.out _).mono ?_
    rintro e w8 ⟨rfl, hu8⟩
    have HRW8 := Lib.hid (HRW7.out.upd hu8 id)
    have HBW8 := Lib.hid (HBW7.out.upd hu8 id)
    have HU8 := Lib.hid hu8
    clear hu8
    go_wp2_with fail
    refine (HBAD.out _ HRW8.out).mono ?_
    rintro e w9 ⟨⟨_, rfl⟩, hto9⟩
    have HT9 := Lib.hid hto9
    clear hto9
    have hF : Upd (fun j => j = b ∨ (w.heap.size ≤ j)) w w9 := by
      have q1 := HT3.out.1.mono (G := fun j => j = b ∨ (w.heap.size ≤ j)) (fun _ _ h => .inl h)
      have q2 := q1.trans ((Upd.refl (fun j => j = b ∨ (w.heap.size ≤ j)) w3).trans HT6.out.1 (fun i hi e => .inl e)) (fun _ _ h => h)
      have q3 := q2.trans HUW6.out (fun i hi e => by omega)
      have q4 := q3.trans HT7.out.1 (fun i hi e => .inl e)
      have q5 := q4.trans HUW7.out (fun i hi e => by omega)
      have q6 := q5.trans HU8.out (fun i hi e => e.elim)
      exact q6.trans HT9.out.1 (fun i hi e => .inl e)
    have hr0 : Blk w9 w.heap.size 30 #[.int .u8 0, .int .u32 0, .int .u8 0, .string { data := #[] }, .string { data := #[] }, .string { data := #[] }, .int .u8 0] := by
      have p3 := (Blk.new w 30 #[.int .u8 0, .int .u32 0, .int .u8 0, .string { data := #[] }, .string { data := #[] }, .string { data := #[] }, .int .u8 0]).upd HV3.out (by omega)
      have p6 := p3.upd HT6.out.1 (by omega)
      have p7 := ((p6.upd HUW6.out (by omega)).upd HT7.out.1 (by omega)).upd HUW7.out (by omega)
      exact (p7.upd HU8.out id).upd HT9.out.1 (by omega)
    have hr1 : Blk w9 w3.heap.size 30 #[.int .u8 x1, .int .u32 x2, .int .u8 x3, .string (strOfNums x4), .string (strOfNums x5), .string (strOfNums x6), .int .u8 x7] := HBW8.out.upd HT9.out.1 (by omega)
    have c0 : w9.cell? ⟨w.heap.size, 0, none⟩ = some (.int .u8 0) := hr0.cell 0
    have c1 : w9.cell? ⟨w.heap.size, 1, none⟩ = some (.int .u32 0) := hr0.cell 1
    have c2 : w9.cell? ⟨w.heap.size, 2, none⟩ = some (.int .u8 0) := hr0.cell 2
    have c3 : w9.cell? ⟨w.heap.size, 3, none⟩ = some (.string { data := #[] }) := hr0.cell 3
    have c4 : w9.cell? ⟨w.heap.size, 4, none⟩ = some (.string { data := #[] }) := hr0.cell 4
    have c5 : w9.cell? ⟨w.heap.size, 5, none⟩ = some (.string { data := #[] }) := hr0.cell 5
    have c6 : w9.cell? ⟨w.heap.size, 6, none⟩ = some (.int .u8 0) := hr0.cell 6
    have d0 := hr0.frozen 0
    have d1 := hr0.frozen 1
    have d2 := hr0.frozen 2
    have d3 := hr0.frozen 3
    have d4 := hr0.frozen 4
    have d5 := hr0.frozen 5
    have d6 := hr0.frozen 6
    have y0 : w9.cell? ⟨w3.heap.size, 0, none⟩ = some (.int .u8 x1) := hr1.cell 0
    have y1 : w9.cell? ⟨w3.heap.size, 1, none⟩ = some (.int .u32 x2) := hr1.cell 1
    have y2 : w9.cell? ⟨w3.heap.size, 2, none⟩ = some (.int .u8 x3) := hr1.cell 2
    have y3 : w9.cell? ⟨w3.heap.size, 3, none⟩ = some (.string (strOfNums x4)) := hr1.cell 3
    have y4 : w9.cell? ⟨w3.heap.size, 4, none⟩ = some (.string (strOfNums x5)) := hr1.cell 4
    have y5 : w9.cell? ⟨w3.heap.size, 5, none⟩ = some (.string (strOfNums x6)) := hr1.cell 5
    have y6 : w9.cell? ⟨w3.heap.size, 6, none⟩ = some (.int .u8 x7) := hr1.cell 6
    have HR0 := Lib.hid hr0
    have HFU := Lib.hid hF
    clear hr0 hr1 hF
    go_wp2_with fail
    refine (HERR.out _ _ HT9.out.2).mono ?_
    rintro e w10 ⟨rfl, rfl⟩
    go_wp2_with fail
    have hB := ((((((HR0.out.set_ 0 (.int .u8 0)).set_ 1 (.int .u32 0)).set_ 2 (.int .u8 0)).set_ 3 (.string { data := #[] })).set_ 4 (.string { data := #[] })).set_ 5 (.string { data := #[] })).set_ 6 (.int .u8 0)
    have p0 := hB.cell 0
    have p1 := hB.cell 1
    have p2 := hB.cell 2
    have p3 := hB.cell 3
    have p4 := hB.cell 4
    have p5 := hB.cell 5
    have p6 := hB.cell 6
    simp at p0 p1 p2 p3 p4 p5 p6
    refine bodyPost_ret (v := .agg #[(.int .u8 0), (.int .u32 0), (.int .u8 0), (.string { data := #[] }), (.string { data := #[] }), (.string { data := #[] }), (.int .u8 0)]) (by simp [results, Try.results44, go_sem, p0, p1, p2, p3, p4, p5, p6]) rfl ⟨rfl, ?_⟩
    have hs2 : Upd (fun j => j = w.heap.size) w9 (((((((w9.setCell ⟨w.heap.size, 0, none⟩ (.int .u8 0)).setCell ⟨w.heap.size, 1, none⟩ (.int .u32 0)).setCell ⟨w.heap.size, 2, none⟩ (.int .u8 0)).setCell ⟨w.heap.size, 3, none⟩ (.string { data := #[] })).setCell ⟨w.heap.size, 4, none⟩ (.string { data := #[] })).setCell ⟨w.heap.size, 5, none⟩ (.string { data := #[] })).setCell ⟨w.heap.size, 6, none⟩ (.int .u8 0)) := by
      have hset : ∀ wx (i : Nat) (u : Value), Upd (fun j => j = w.heap.size) w9 wx → Upd (fun j => j = w.heap.size) w9 (wx.setCell ⟨w.heap.size, i, none⟩ u) := fun wx i u hu => Upd.setCell (F := fun j => j = w.heap.size) hu (p := ⟨w.heap.size, i, none⟩) (.inl rfl) _
      exact hset _ _ _ (hset _ _ _ (hset _ _ _ (hset _ _ _ (hset _ _ _ (hset _ _ _ (hset _ _ _ (Upd.refl _ _)))))))
    exact ⟨(HFU.out.trans hs2 (F := fun j => j = b ∨ (w.heap.size ≤ j)) (fun i hi e => .inr (by omega)) |>.mono (G := fun j => j = b) (fun i hi e => by omega)), HT9.out.2.upd hs2 (by omega)⟩
  rw [hbb] at HCHK
  simp only [if_true] at HCHK ⊢
  clear hbb HBAD
  by_cases he : s7.2 = 0
  · rw [if_pos he]
    have he' : (s7.2 != 0) = false := by simpa using he
    clear he
    go_enter Try.func44, Try.ntmps44
    go_wp2_with fail
    refine (HA.out _ (by exact Blk.alloc HR.out _)).mono ?_
    rintro e w1 ⟨rfl, hto1⟩
    have HT1 := Lib.hid ((HR.out.still ((Upd.refl _ w).alloc (.cells #[.int .u8 0, .int .u32 0, .int .u8 0, .string { data := #[] }, .string { data := #[] }, .string { data := #[] }, .int .u8 0] 30))).trans hto1)
    have HV1 := Lib.hid hto1.1
    clear hto1
    go_wp2_with fail
    refine (HB.out _ HT1.out.2).mono ?_
    rintro e w2 ⟨rfl, hto2⟩
    have HT2 := Lib.hid (HT1.out.trans hto2)
    have HV2 := Lib.hid (HV1.out.trans hto2.1 (fun _ _ h => h))
    clear hto2
    have q0 := HX2.out.1
    have q1 := HX2.out.2
    go_wp2_with fail
    refine (HC.out _ HT2.out.2).mono ?_
    rintro e w3 ⟨rfl, hto3⟩
    have HT3 := Lib.hid (HT2.out.trans hto3)
    have HV3 := Lib.hid (HV2.out.trans hto3.1 (fun _ _ h => h))
    have hz3 := HV3.out.size
    simp only [World.size_alloc] at hz3
    clear hto3
    go_wp2_with fail
    refine (HD.out _ (by exact Blk.alloc HT3.out.2 _)).mono ?_
    rintro e w4 ⟨rfl, hto4⟩
    have HT4 := Lib.hid ((HT3.out.2.still ((Upd.refl _ w3).alloc (.cells #[.int .u8 x1, .int .u32 x2, .int .u8 x3, .string { data := #[] }, .string { data := #[] }, .string { data := #[] }, .int .u8 0] 30))).trans hto4)
    have hb4 : Blk w4 w3.heap.size 30 #[.int .u8 x1, .int .u32 x2, .int .u8 x3, .string { data := #[] }, .string { data := #[] }, .string { data := #[] }, .int .u8 0] := (Blk.new w3 _ _).upd hto4.1 (by omega)
    have HB4 := Lib.hid hb4
    clear hto4 hb4 q0 q1
    go_wp2_with fail
    refine (HE.out _ HT4.out.2).mono ?_
    rintro e w5 ⟨rfl, hto5⟩
    have HT5 := Lib.hid (HT4.out.trans hto5)
    have HB5 := Lib.hid (HB4.out.upd hto5.1 (by omega))
    clear hto5
    go_wp2_with fail
    refine (HF.out _ HT5.out.2).mono ?_
    rintro e w6 ⟨rfl, hto6⟩
    have HT6 := Lib.hid (HT5.out.trans hto6)
    have hb6 := HB5.out.upd hto6.1 (by omega)
    have HB6 := Lib.hid hb6
    have f3 : w6.cell? ⟨w3.heap.size, 3, none⟩ = some (.string { data := #[] }) := hb6.cell 3
    have f4 : w6.cell? ⟨w3.heap.size, 4, none⟩ = some (.string { data := #[] }) := hb6.cell 4
    have f5 : w6.cell? ⟨w3.heap.size, 5, none⟩ = some (.string { data := #[] }) := hb6.cell 5
    have z3 := hb6.frozen 3
    have z4 := hb6.frozen 4
    have z5 := hb6.frozen 5
    clear hto6 hb6
    go_wp2_with fail
    obtain ⟨W6, hW6⟩ : ∃ W6, W6 = ((w6.setCell ⟨w3.heap.size, 3, none⟩ (.string (strOfNums x4))).setCell ⟨w3.heap.size, 4, none⟩ (.string (strOfNums x5))).setCell ⟨w3.heap.size, 5, none⟩ (.string (strOfNums x6)) := ⟨_, rfl⟩
    rw [← hW6]
    have hu6 : Upd (fun j => j = w3.heap.size) w6 W6 := by rw [hW6]; exact Upd.setCell (F := fun j => j = w3.heap.size) (Upd.setCell (F := fun j => j = w3.heap.size) (Upd.setCell (F := fun j => j = w3.heap.size) (Upd.refl _ _) (p := ⟨w3.heap.size, 3, none⟩) (.inl rfl) _) (p := ⟨w3.heap.size, 4, none⟩) (.inl rfl) _) (p := ⟨w3.heap.size, 5, none⟩) (.inl rfl) _
    have HBW6 : Hid (Blk W6 w3.heap.size 30 #[.int .u8 x1, .int .u32 x2, .int .u8 x3, .string (strOfNums x4), .string (strOfNums x5), .string (strOfNums x6), .int .u8 0]) := by
      show Blk _ _ _ _
      rw [hW6]; simpa using ((HB6.out.set_ 3 (.string (strOfNums x4))).set_ 4 (.string (strOfNums x5))).set_ 5 (.string (strOfNums x6))
    have HRW6 : Hid (Rd W6 b s6) := HT6.out.2.upd hu6 (by omega)
    have HUW6 := Lib.hid hu6
    clear hW6 hu6 f3 f4 f5 z3 z4 z5
    refine (HG.out _ HRW6.out).mono ?_
    rintro e w7 ⟨rfl, hto7⟩
    have hb7 := HBW6.out.upd hto7.1 (by omega)
    have HB7 := Lib.hid hb7
    have HT7 := Lib.hid hto7
    have f6 : w7.cell? ⟨w3.heap.size, 6, none⟩ = some (.int .u8 0) := hb7.cell 6
    have z6 := hb7.frozen 6
    have f0 : w7.cell? ⟨w3.heap.size, 0, none⟩ = some (.int .u8 x1) := hb7.cell 0
    have f1 : w7.cell? ⟨w3.heap.size, 1, none⟩ = some (.int .u32 x2) := hb7.cell 1
    have f2 : w7.cell? ⟨w3.heap.size, 2, none⟩ = some (.int .u8 x3) := hb7.cell 2
    have f3 : w7.cell? ⟨w3.heap.size, 3, none⟩ = some (.string (strOfNums x4)) := hb7.cell 3
    have f4 : w7.cell? ⟨w3.heap.size, 4, none⟩ = some (.string (strOfNums x5)) := hb7.cell 4
    have f5 : w7.cell? ⟨w3.heap.size, 5, none⟩ = some (.string (strOfNums x6)) := hb7.cell 5
    clear hto7 hb7
    go_wp2_with fail
    obtain ⟨W7, hW7⟩ : ∃ W7, W7 = w7.setCell ⟨w3.heap.size, 6, none⟩ (.int .u8 x7) := ⟨_, rfl⟩
    rw [← hW7]
    have hu7 : Upd (fun j => j = w3.heap.size) w7 W7 := by rw [hW7]; exact Upd.setCell (F := fun j => j = w3.heap.size) (Upd.refl _ _) (p := ⟨w3.heap.size, 6, none⟩) (.inl rfl) _
    have HBW7 : Hid (Blk W7 w3.heap.size 30 #[.int .u8 x1, .int .u32 x2, .int .u8 x3, .string (strOfNums x4), .string (strOfNums x5), .string (strOfNums x6), .int .u8 x7]) := by
      show Blk _ _ _ _
      rw [hW7]; simpa using HB7.out.set_ 6 (.int .u8 x7)
    have HRW7 : Hid (Rd W7 b s7) := HT7.out.2.upd hu7 (by omega)
    have HUW7 := Lib.hid hu7
    clear hW7 hu7 f0 f1 f2 f3 f4 f5 f6 z6
    refine (HCHK.out _).mono ?_
    rintro e w8 ⟨rfl, hu8⟩
    have HRW8 := Lib.hid (HRW7.out.upd hu8 id)
    have HBW8 := Lib.hid (HBW7.out.upd hu8 id)
    have HU8 := Lib.hid hu8
    clear hu8
    have HT9 : Hid (RdTo w8 b s7 w8) := HRW8.out.to
    have hF : Upd (fun j => j = b ∨ (w.heap.size ≤ j)) w w8 := by
      have q1 := HT3.out.1.mono (G := fun j => j = b ∨ (w.heap.size ≤ j)) (fun _ _ h => .inl h)
      have q2 := q1.trans ((Upd.refl (fun j => j = b ∨ (w.heap.size ≤ j)) w3).trans HT6.out.1 (fun i hi e => .inl e)) (fun _ _ h => h)
      have q3 := q2.trans HUW6.out (fun i hi e => by omega)
      have q4 := q3.trans HT7.out.1 (fun i hi e => .inl e)
      have q5 := q4.trans HUW7.out (fun i hi e => by omega)
      have q6 := q5.trans HU8.out (fun i hi e => e.elim)
      exact q6.trans HT9.out.1 (fun i hi e => .inl e)
    have hr0 : Blk w8 w.heap.size 30 #[.int .u8 0, .int .u32 0, .int .u8 0, .string { data := #[] }, .string { data := #[] }, .string { data := #[] }, .int .u8 0] := by
      have p3 := (Blk.new w 30 #[.int .u8 0, .int .u32 0, .int .u8 0, .string { data := #[] }, .string { data := #[] }, .string { data := #[] }, .int .u8 0]).upd HV3.out (by omega)
      have p6 := p3.upd HT6.out.1 (by omega)
      have p7 := ((p6.upd HUW6.out (by omega)).upd HT7.out.1 (by omega)).upd HUW7.out (by omega)
      exact (p7.upd HU8.out id).upd HT9.out.1 (by omega)
    have hr1 : Blk w8 w3.heap.size 30 #[.int .u8 x1, .int .u32 x2, .int .u8 x3, .string (strOfNums x4), .string (strOfNums x5), .string (strOfNums x6), .int .u8 x7] := HBW8.out.upd HT9.out.1 (by omega)
    have c0 : w8.cell? ⟨w.heap.size, 0, none⟩ = some (.int .u8 0) := hr0.cell 0
    have c1 : w8.cell? ⟨w.heap.size, 1, none⟩ = some (.int .u32 0) := hr0.cell 1
    have c2 : w8.cell? ⟨w.heap.size, 2, none⟩ = some (.int .u8 0) := hr0.cell 2
    have c3 : w8.cell? ⟨w.heap.size, 3, none⟩ = some (.string { data := #[] }) := hr0.cell 3
    have c4 : w8.cell? ⟨w.heap.size, 4, none⟩ = some (.string { data := #[] }) := hr0.cell 4
    have c5 : w8.cell? ⟨w.heap.size, 5, none⟩ = some (.string { data := #[] }) := hr0.cell 5
    have c6 : w8.cell? ⟨w.heap.size, 6, none⟩ = some (.int .u8 0) := hr0.cell 6
    have d0 := hr0.frozen 0
    have d1 := hr0.frozen 1
    have d2 := hr0.frozen 2
    have d3 := hr0.frozen 3
    have d4 := hr0.frozen 4
    have d5 := hr0.frozen 5
    have d6 := hr0.frozen 6
    have y0 : w8.cell? ⟨w3.heap.size, 0, none⟩ = some (.int .u8 x1) := hr1.cell 0
    have y1 : w8.cell? ⟨w3.heap.size, 1, none⟩ = some (.int .u32 x2) := hr1.cell 1
    have y2 : w8.cell? ⟨w3.heap.size, 2, none⟩ = some (.int .u8 x3) := hr1.cell 2
    have y3 : w8.cell? ⟨w3.heap.size, 3, none⟩ = some (.string (strOfNums x4)) := hr1.cell 3
    have y4 : w8.cell? ⟨w3.heap.size, 4, none⟩ = some (.string (strOfNums x5)) := hr1.cell 4
    have y5 : w8.cell? ⟨w3.heap.size, 5, none⟩ = some (.string (strOfNums x6)) := hr1.cell 5
    have y6 : w8.cell? ⟨w3.heap.size, 6, none⟩ = some (.int .u8 x7) := hr1.cell 6
    have HR0 := Lib.hid hr0
    have HFU := Lib.hid hF
    clear hr0 hr1 hF
    go_wp2_with fail
    refine (HERR.out _ _ HT9.out.2).mono ?_
    rintro e w10 ⟨rfl, rfl⟩
    go_wp2_with fail
    have hB := ((((((HR0.out.set_ 0 (.int .u8 x1)).set_ 1 (.int .u32 x2)).set_ 2 (.int .u8 x3)).set_ 3 (.string (strOfNums x4))).set_ 4 (.string (strOfNums x5))).set_ 5 (.string (strOfNums x6))).set_ 6 (.int .u8 x7)
    have p0 := hB.cell 0
    have p1 := hB.cell 1
    have p2 := hB.cell 2
    have p3 := hB.cell 3
    have p4 := hB.cell 4
    have p5 := hB.cell 5
    have p6 := hB.cell 6
    simp at p0 p1 p2 p3 p4 p5 p6
    refine bodyPost_ret (v := .agg #[(.int .u8 x1), (.int .u32 x2), (.int .u8 x3), (.string (strOfNums x4)), (.string (strOfNums x5)), (.string (strOfNums x6)), (.int .u8 x7)]) (by simp [results, Try.results44, go_sem, p0, p1, p2, p3, p4, p5, p6]) rfl ⟨rfl, ?_⟩
    have hs2 : Upd (fun j => j = w.heap.size) w8 (((((((w8.setCell ⟨w.heap.size, 0, none⟩ (.int .u8 x1)).setCell ⟨w.heap.size, 1, none⟩ (.int .u32 x2)).setCell ⟨w.heap.size, 2, none⟩ (.int .u8 x3)).setCell ⟨w.heap.size, 3, none⟩ (.string (strOfNums x4))).setCell ⟨w.heap.size, 4, none⟩ (.string (strOfNums x5))).setCell ⟨w.heap.size, 5, none⟩ (.string (strOfNums x6))).setCell ⟨w.heap.size, 6, none⟩ (.int .u8 x7)) := by
      have hset : ∀ wx (i : Nat) (u : Value), Upd (fun j => j = w.heap.size) w8 wx → Upd (fun j => j = w.heap.size) w8 (wx.setCell ⟨w.heap.size, i, none⟩ u) := fun wx i u hu => Upd.setCell (F := fun j => j = w.heap.size) hu (p := ⟨w.heap.size, i, none⟩) (.inl rfl) _
      exact hset _ _ _ (hset _ _ _ (hset _ _ _ (hset _ _ _ (hset _ _ _ (hset _ _ _ (hset _ _ _ (Upd.refl _ _)))))))
    exact ⟨(HFU.out.trans hs2 (F := fun j => j = b ∨ (w.heap.size ≤ j)) (fun i hi e => .inr (by omega)) |>.mono (G := fun j => j = b) (fun i hi e => by omega)), HT9.out.2.upd hs2 (by omega)⟩
  · rw [if_neg he]
    have he' : (s7.2 != 0) = true := bne_iff_ne.2 he
    clear he
    go_enter Try.func44, Try.ntmps44
    go_wp2_with fail
    refine (HA.out _ (by exact Blk.alloc HR.out _)).mono ?_
    rintro e w1 ⟨rfl, hto1⟩
    have HT1 := Lib.hid ((HR.out.still ((Upd.refl _ w).alloc (.cells #[.int .u8 0, .int .u32 0, .int .u8 0, .string { data := #[] }, .string { data := #[] }, .string { data := #[] }, .int .u8 0] 30))).trans hto1)
    have HV1 := Lib.hid hto1.1
    clear hto1
    go_wp2_with fail
    refine (HB.out _ HT1.out.2).mono ?_
    rintro e w2 ⟨rfl, hto2⟩
    have HT2 := Lib.hid (HT1.out.trans hto2)
    have HV2 := Lib.hid (HV1.out.trans hto2.1 (fun _ _ h => h))
    clear hto2
    have q0 := HX2.out.1
    have q1 := HX2.out.2
    go_wp2_with fail
    refine (HC.out _ HT2.out.2).mono ?_
    rintro e w3 ⟨rfl, hto3⟩
    have HT3 := Lib.hid (HT2.out.trans hto3)
    have HV3 := Lib.hid (HV2.out.trans hto3.1 (fun _ _ h => h))
    have hz3 := HV3.out.size
    simp only [World.size_alloc] at hz3
    clear hto3
    go_wp2_with fail
    refine (HD.out _ (by exact Blk.alloc HT3.out.2 _)).mono ?_
    rintro e w4 ⟨rfl, hto4⟩
    have HT4 := Lib.hid ((HT3.out.2.still ((Upd.refl _ w3).alloc (.cells #[.int .u8 x1, .int .u32 x2, .int .u8 x3, .string { data := #[] }, .string { data := #[] }, .string { data := #[] }, .int .u8 0] 30))).trans hto4)
    have hb4 : Blk w4 w3.heap.size 30 #[.int .u8 x1, .int .u32 x2, .int .u8 x3, .string { data := #[] }, .string { data := #[] }, .string { data := #[] }, .int .u8 0] := (Blk.new w3 _ _).upd hto4.1 (by omega)
    have HB4 := Lib.hid hb4
    clear hto4 hb4 q0 q1
    go_wp2_with fail
    refine (HE.out _ HT4.out.2).mono ?_
    rintro e w5 ⟨rfl, hto5⟩
    have HT5 := Lib.hid (HT4.out.trans hto5)
    have HB5 := Lib.hid (HB4.out.upd hto5.1 (by omega))
    clear hto5
    go_wp2_with fail
    refine (HF.out _ HT5.out.2).mono ?_
    rintro e w6 ⟨rfl, hto6⟩
    have HT6 := Lib.hid (HT5.out.trans hto6)
    have hb6 := HB5.out.upd hto6.1 (by omega)
    have HB6 := Lib.hid hb6
    have f3 : w6.cell? ⟨w3.heap.size, 3, none⟩ = some (.string { data := #[] }) := hb6.cell 3
    have f4 : w6.cell? ⟨w3.heap.size, 4, none⟩ = some (.string { data := #[] }) := hb6.cell 4
    have f5 : w6.cell? ⟨w3.heap.size, 5, none⟩ = some (.string { data := #[] }) := hb6.cell 5
    have z3 := hb6.frozen 3
    have z4 := hb6.frozen 4
    have z5 := hb6.frozen 5
    clear hto6 hb6
    go_wp2_with fail
    obtain ⟨W6, hW6⟩ : ∃ W6, W6 = ((w6.setCell ⟨w3.heap.size, 3, none⟩ (.string (strOfNums x4))).setCell ⟨w3.heap.size, 4, none⟩ (.string (strOfNums x5))).setCell ⟨w3.heap.size, 5, none⟩ (.string (strOfNums x6)) := ⟨_, rfl⟩
    rw [← hW6]
    have hu6 : Upd (fun j => j = w3.heap.size) w6 W6 := by rw [hW6]; exact Upd.setCell (F := fun j => j = w3.heap.size) (Upd.setCell (F := fun j => j = w3.heap.size) (Upd.setCell (F := fun j => j = w3.heap.size) (Upd.refl _ _) (p := ⟨w3.heap.size, 3, none⟩) (.inl rfl) _) (p := ⟨w3.heap.size, 4, none⟩) (.inl rfl) _) (p := ⟨w3.heap.size, 5, none⟩) (.inl rfl) _
    have HBW6 : Hid (Blk W6 w3.heap.size 30 #[.int .u8 x1, .int .u32 x2, .int .u8 x3, .string (strOfNums x4), .string (strOfNums x5), .string (strOfNums x6), .int .u8 0]) := by
      show Blk _ _ _ _
      rw [hW6]; simpa using ((HB6.out.set_ 3 (.string (strOfNums x4))).set_ 4 (.string (strOfNums x5))).set_ 5 (.string (strOfNums x6))
    have HRW6 : Hid (Rd W6 b s6) := HT6.out.2.upd hu6 (by omega)
    have HUW6 := Lib.hid hu6
    clear hW6 hu6 f3 f4 f5 z3 z4 z5
    refine (HG.out _ HRW6.out).mono ?_
    rintro e w7 ⟨rfl, hto7⟩
    have hb7 := HBW6.out.upd hto7.1 (by omega)
    have HB7 := Lib.hid hb7
    have HT7 := Lib.hid hto7
    have f6 : w7.cell? ⟨w3.heap.size, 6, none⟩ = some (.int .u8 0) := hb7.cell 6
    have z6 := hb7.frozen 6
    have f0 : w7.cell? ⟨w3.heap.size, 0, none⟩ = some (.int .u8 x1) := hb7.cell 0
    have f1 : w7.cell? ⟨w3.heap.size, 1, none⟩ = some (.int .u32 x2) := hb7.cell 1
    have f2 : w7.cell? ⟨w3.heap.size, 2, none⟩ = some (.int .u8 x3) := hb7.cell 2
    have f3 : w7.cell? ⟨w3.heap.size, 3, none⟩ = some (.string (strOfNums x4)) := hb7.cell 3
    have f4 : w7.cell? ⟨w3.heap.size, 4, none⟩ = some (.string (strOfNums x5)) := hb7.cell 4
    have f5 : w7.cell? ⟨w3.heap.size, 5, none⟩ = some (.string (strOfNums x6)) := hb7.cell 5
    clear hto7 hb7
    go_wp2_with fail
    obtain ⟨W7, hW7⟩ : ∃ W7, W7 = w7.setCell ⟨w3.heap.size, 6, none⟩ (.int .u8 x7) := ⟨_, rfl⟩
    rw [← hW7]
    have hu7 : Upd (fun j => j = w3.heap.size) w7 W7 := by rw [hW7]; exact Upd.setCell (F := fun j => j = w3.heap.size) (Upd.refl _ _) (p := ⟨w3.heap.size, 6, none⟩) (.inl rfl) _
    have HBW7 : Hid (Blk W7 w3.heap.size 30 #[.int .u8 x1, .int .u32 x2, .int .u8 x3, .string (strOfNums x4), .string (strOfNums x5), .string (strOfNums x6), .int .u8 x7]) := by
      show Blk _ _ _ _
      rw [hW7]; simpa using HB7.out.set_ 6 (.int .u8 x7)
    have HRW7 : Hid (Rd W7 b s7) := HT7.out.2.upd hu7 (by omega)
    have HUW7 := Lib.hid hu7
    clear hW7 hu7 f0 f1 f2 f3 f4 f5 f6 z6
    refine (HCHK.out _).mono ?_
    rintro e w8 ⟨rfl, hu8⟩
    have HRW8 := Lib.hid (HRW7.out.upd hu8 id)
    have HBW8 := Lib.hid (HBW7.out.upd hu8 id)
    have HU8 := Lib.hid hu8
    clear hu8
    have HT9 : Hid (RdTo w8 b s7 w8) := HRW8.out.to
    have hF : Upd (fun j => j = b ∨ (w.heap.size ≤ j)) w w8 := by
      have q1 := HT3.out.1.mono (G := fun j => j = b ∨ (w.heap.size ≤ j)) (fun _ _ h => .inl h)
      have q2 := q1.trans ((Upd.refl (fun j => j = b ∨ (w.heap.size ≤ j)) w3).trans HT6.out.1 (fun i hi e => .inl e)) (fun _ _ h => h)
      have q3 := q2.trans HUW6.out (fun i hi e => by omega)
      have q4 := q3.trans HT7.out.1 (fun i hi e => .inl e)
      have q5 := q4.trans HUW7.out (fun i hi e => by omega)
      have q6 := q5.trans HU8.out (fun i hi e => e.elim)
      exact q6.trans HT9.out.1 (fun i hi e => .inl e)
    have hr0 : Blk w8 w.heap.size 30 #[.int .u8 0, .int .u32 0, .int .u8 0, .string { data := #[] }, .string { data := #[] }, .string { data := #[] }, .int .u8 0] := by
      have p3 := (Blk.new w 30 #[.int .u8 0, .int .u32 0, .int .u8 0, .string { data := #[] }, .string { data := #[] }, .string { data := #[] }, .int .u8 0]).upd HV3.out (by omega)
      have p6 := p3.upd HT6.out.1 (by omega)
      have p7 := ((p6.upd HUW6.out (by omega)).upd HT7.out.1 (by omega)).upd HUW7.out (by omega)
      exact (p7.upd HU8.out id).upd HT9.out.1 (by omega)
    have hr1 : Blk w8 w3.heap.size 30 #[.int .u8 x1, .int .u32 x2, .int .u8 x3, .string (strOfNums x4), .string (strOfNums x5), .string (strOfNums x6), .int .u8 x7] := HBW8.out.upd HT9.out.1 (by omega)
    have c0 : w8.cell? ⟨w.heap.size, 0, none⟩ = some (.int .u8 0) := hr0.cell 0
    have c1 : w8.cell? ⟨w.heap.size, 1, none⟩ = some (.int .u32 0) := hr0.cell 1
    have c2 : w8.cell? ⟨w.heap.size, 2, none⟩ = some (.int .u8 0) := hr0.cell 2
    have c3 : w8.cell? ⟨w.heap.size, 3, none⟩ = some (.string { data := #[] }) := hr0.cell 3
    have c4 : w8.cell? ⟨w.heap.size, 4, none⟩ = some (.string { data := #[] }) := hr0.cell 4
    have c5 : w8.cell? ⟨w.heap.size, 5, none⟩ = some (.string { data := #[] }) := hr0.cell 5
    have c6 : w8.cell? ⟨w.heap.size, 6, none⟩ = some (.int .u8 0) := hr0.cell 6
    have d0 := hr0.frozen 0
    have d1 := hr0.frozen 1
    have d2 := hr0.frozen 2
    have d3 := hr0.frozen 3
    have d4 := hr0.frozen 4
    have d5 := hr0.frozen 5
    have d6 := hr0.frozen 6
    have y0 : w8.cell? ⟨w3.heap.size, 0, none⟩ = some (.int .u8 x1) := hr1.cell 0
    have y1 : w8.cell? ⟨w3.heap.size, 1, none⟩ = some (.int .u32 x2) := hr1.cell 1
    have y2 : w8.cell? ⟨w3.heap.size, 2, none⟩ = some (.int .u8 x3) := hr1.cell 2
    have y3 : w8.cell? ⟨w3.heap.size, 3, none⟩ = some (.string (strOfNums x4)) := hr1.cell 3
    have y4 : w8.cell? ⟨w3.heap.size, 4, none⟩ = some (.string (strOfNums x5)) := hr1.cell 4
    have y5 : w8.cell? ⟨w3.heap.size, 5, none⟩ = some (.string (strOfNums x6)) := hr1.cell 5
    have y6 : w8.cell? ⟨w3.heap.size, 6, none⟩ = some (.int .u8 x7) := hr1.cell 6
    have HR0 := Lib.hid hr0
    have HFU := Lib.hid hF
    clear hr0 hr1 hF
    go_wp2_with fail
    refine (HERR.out _ _ HT9.out.2).mono ?_
    rintro e w10 ⟨rfl, rfl⟩
    go_wp2_with fail
    have hB := ((((((HR0.out.set_ 0 (.int .u8 0)).set_ 1 (.int .u32 0)).set_ 2 (.int .u8 0)).set_ 3 (.string { data := #[] })).set_ 4 (.string { data := #[] })).set_ 5 (.string { data := #[] })).set_ 6 (.int .u8 0)
    have p0 := hB.cell 0
    have p1 := hB.cell 1
    have p2 := hB.cell 2
    have p3 := hB.cell 3
    have p4 := hB.cell 4
    have p5 := hB.cell 5
    have p6 := hB.cell 6
    simp at p0 p1 p2 p3 p4 p5 p6
    refine bodyPost_ret (v := .agg #[(.int .u8 0), (.int .u32 0), (.int .u8 0), (.string { data := #[] }), (.string { data := #[] }), (.string { data := #[] }), (.int .u8 0)]) (by simp [results, Try.results44, go_sem, p0, p1, p2, p3, p4, p5, p6]) rfl ⟨rfl, ?_⟩
    have hs2 : Upd (fun j => j = w.heap.size) w8 (((((((w8.setCell ⟨w.heap.size, 0, none⟩ (.int .u8 0)).setCell ⟨w.heap.size, 1, none⟩ (.int .u32 0)).setCell ⟨w.heap.size, 2, none⟩ (.int .u8 0)).setCell ⟨w.heap.size, 3, none⟩ (.string { data := #[] })).setCell ⟨w.heap.size, 4, none⟩ (.string { data := #[] })).setCell ⟨w.heap.size, 5, none⟩ (.string { data := #[] })).setCell ⟨w.heap.size, 6, none⟩ (.int .u8 0)) := by
      have hset : ∀ wx (i : Nat) (u : Value), Upd (fun j => j = w.heap.size) w8 wx → Upd (fun j => j = w.heap.size) w8 (wx.setCell ⟨w.heap.size, i, none⟩ u) := fun wx i u hu => Upd.setCell (F := fun j => j = w.heap.size) hu (p := ⟨w.heap.size, i, none⟩) (.inl rfl) _
      exact hset _ _ _ (hset _ _ _ (hset _ _ _ (hset _ _ _ (hset _ _ _ (hset _ _ _ (hset _ _ _ (Upd.refl _ _)))))))
    exact ⟨(HFU.out.trans hs2 (F := fun j => j = b ∨ (w.heap.size ≤ j)) (fun i hi e => .inr (by omega)) |>.mono (G := fun j => j = b) (fun i hi e => by omega)), HT9.out.2.upd hs2 (by omega)⟩
end Go.Proofs.Ytaielcokfpodaaa
