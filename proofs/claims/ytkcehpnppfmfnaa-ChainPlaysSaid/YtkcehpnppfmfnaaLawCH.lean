/-
  ChainOf: the walk of the statement's own text. Conditions: none.
-/
import Derived.Test.YtkcehpnppfmfnaaLawCG
namespace Go.Proofs.Ytkcehpnppfmfnaa
open Go.RowKit

theorem wf_u64' {n : Int} (h : (Lit.int .u64 n).wf = true) : 0 ≤ n ∧ n ≤ 18446744073709551615 := by
  simp [Lit.wf, IntKind.min, IntKind.max, IntKind.signed, IntKind.bits] at h; omega

set_option maxRecDepth 100000 in
set_option maxHeartbeats 16000000 in
theorem chainOf_walk (top : Int) (t : ByteArray) (a2 : Option Addr) (n c2 : Nat) (z2 : List Int) (frm to : Int) (w : World)
    (h0 : (Lit.int .u64 top).wf = true) (h1 : t.size ≤ maxLen) (i2 : IsRow .u8 w a2 n c2 z2) (h3 : (Lit.int .u64 frm).wf = true) (h4 : (Lit.int .u64 to).wf = true) :
    Calls Try.prog 4 #[.int .u64 top, .string t, .slice a2 n c2, .int .u64 frm, .int .u64 to] w fun e w' => e = .returned (.bool true) ∧ Below w.heap.size w w' := by
  obtain ⟨s2, l2, b2⟩ := i2.sl
  have m2 : c2 ≤ maxLen := by obtain ⟨_, _, _, e, _, hm, _⟩ := s2; cases e; exact hm
  have k2 : n ≤ c2 := by obtain ⟨_, _, _, e, h, _⟩ := s2; cases e; exact h
  obtain ⟨t0, t1⟩ := wf_u64' h0
  obtain ⟨f0, f1⟩ := wf_u64' h3
  obtain ⟨g0, g1⟩ := wf_u64' h4
  generalize z2.take n = R at *
  clear i2 h0 h3 h4
  unfold maxLen at m2 h1
  have j1 : (t.size : Int) ≤ 9223372036854775807 := by omega
  have j2 : (n : Int) ≤ 9223372036854775807 := by omega
  by_cases hbig : 20 < t.size ∨ 40 < n
  · clear s2 l2 b2
    by_cases h20 : 20 < t.size
    · clear hbig
      go_enter Try.func4, Try.ntmps4
      go_wp2_with fail
      refine (wakes_true w).mono ?_
      rintro e w' ⟨rfl, hu⟩
      have HU := Lib.hid hu
      clear hu
      go_wp2_with fail
      go_ret
      exact ⟨rfl, HU.out.below⟩
    · have h40 : 40 < n := by omega
      have q1 : decide ((20 : Int) < (t.size : Int)) = false := decide_eq_false (by omega)
      clear hbig h20
      go_enter Try.func4, Try.ntmps4
      go_wp2_with fail
      refine (wakes_true w).mono ?_
      rintro e w' ⟨rfl, hu⟩
      have HU := Lib.hid hu
      clear hu
      go_wp2_with fail
      go_ret
      exact ⟨rfl, HU.out.below⟩
  have h20 : t.size ≤ 20 := by omega
  have h40 : n ≤ 40 := by omega
  have q1 : decide ((20 : Int) < (t.size : Int)) = false := decide_eq_false (by omega)
  have q2 : decide ((40 : Int) < (n : Int)) = false := decide_eq_false (by omega)
  clear hbig h1 m2 j1 j2
  by_cases hbad : 4611686018427387904 < top ∨ ((t.size : Nat) : Int) ≠ min (top + 1) 3
  · have HO := Lib.hid (of_bad top t w t0 t1 (by omega) hbad)
    have HR := Lib.hid (fun wx => rof_bad top t wx t0 t1 (by omega) hbad)
    clear hbad s2 l2 b2
    go_enter Try.func4, Try.ntmps4
    go_wp2_with fail
    refine HO.out.mono ?_
    rintro e w' ⟨rfl, rfl⟩
    go_wp2_with fail
    refine (HR.out _).mono ?_
    rintro e w2 ⟨rfl, hu⟩
    have HU := Lib.hid hu
    clear hu
    go_wp2_with fail
    refine (wakes_true _).mono ?_
    rintro e w3 ⟨rfl, hu⟩
    have HU3 := Lib.hid hu
    clear hu
    go_wp2_with fail
    go_ret
    exact ⟨rfl, ((HU.out.alloc _).trans HU3.out (fun _ _ h => h)).below⟩
  obtain ⟨low, hlow⟩ : ∃ low : Nat, (low : Int) = top + 1 - ((t.size : Nat) : Int) := ⟨(top + 1 - ((t.size : Nat) : Int)).toNat, by omega⟩
  have HO := Lib.hid (of_walk top t w low t0 (by omega) (by omega) hlow)
  have HR := Lib.hid (fun wx => rof_walk top t wx low t0 (by omega) (by omega) hlow)
  have hN := nums_length t
  have ht3 : t.size ≤ 3 := by omega
  have ht1 : 0 < t.size := by omega
  have hlt : (low : Int) + (t.size : Int) ≤ 4611686018427387905 := by omega
  clear hbad hlow
  generalize nums t = N at *
  by_cases hdd : dirsB N = false
  · have HD := Lib.hid hdd
    clear hdd s2 l2 b2 hN
    go_enter Try.func4, Try.ntmps4
    go_wp2_with fail
    refine HO.out.mono ?_
    rintro e w1 (⟨_, rfl, hu⟩ | ⟨h, _⟩)
    rotate_left
    · rw [HD.out] at h; exact absurd h (by decide)
    have HU1 := Lib.hid hu
    clear hu
    go_wp2_with fail
    refine (HR.out _).mono ?_
    rintro e w2 (⟨_, rfl, hu⟩ | ⟨h, _⟩)
    rotate_left
    · rw [HD.out] at h; exact absurd h (by decide)
    have HU := Lib.hid hu
    clear hu
    go_wp2_with fail
    refine (wakes_true _).mono ?_
    rintro e w3 ⟨rfl, hu⟩
    have HU3 := Lib.hid hu
    clear hu
    go_wp2_with fail
    go_ret
    exact ⟨rfl, (((HU1.out.trans HU.out (fun _ _ h => h)).alloc _).trans HU3.out (fun _ _ h => h)).below⟩
  have hdd' : dirsB N = true := by simpa using hdd
  have HD := Lib.hid hdd'
  have hok : ChnOk low N := ⟨by omega, by omega, fun x hx => dirB_true (List.all_eq_true.1 hdd' x hx)⟩
  have HOK := Lib.hid hok
  have HN := Lib.hid hN
  have HS2 := Lib.hid s2
  have HL2 := Lib.hid l2
  have HB2 := Lib.hid b2
  have HHL := Lib.hid hlt
  clear hdd hdd' hok hN s2 l2 b2
  go_enter Try.func4, Try.ntmps4
  go_wp2_with fail
  refine HO.out.mono ?_
  rintro e w1 (⟨h, _⟩ | ⟨_, p, rfl, hu1, F1, hF1, hc1⟩)
  · rw [HD.out] at h; exact absurd h (by decide)
  obtain ⟨b, rfl⟩ := hc1.ptr
  have HU1 := Lib.hid hu1
  have HF1 := Lib.hid hF1
  have HC1 := Lib.hid hc1
  clear hu1 hF1 hc1
  go_wp2_with fail
  refine (HR.out _).mono ?_
  rintro e w2 (⟨h, _⟩ | ⟨_, v, rfl, hu2, A, c, rfl, hs2⟩)
  · rw [HD.out] at h; exact absurd h (by decide)
  have HU2 := Lib.hid hu2
  have HS3 := Lib.hid hs2
  clear hu2 hs2
  go_wp2_with fail
  obtain ⟨B, hB⟩ : ∃ B, B = w2.heap.size := ⟨_, rfl⟩
  have hP : Pr (fun _ => False) w B (.pointer (some ⟨b, 0, none⟩)) low N low N (w2.alloc (.cells #[.int .u64 (low : Int), .slice A N.length c] 36)) := by
    have hu12 := HU1.out.trans HU2.out (fun _ _ h => h)
    have hs1 := HU1.out.size
    have hs2 := HU2.out.size
    refine ⟨.inr (by rw [hB]; exact hu12.size), hu12.alloc _, F1, _, A, c, (HC1.out.upd HU2.out (fun _ _ h => h)).upd ((Upd.refl (fun _ => False) _).alloc _) (fun _ _ h => h), Blk.newAt _ _ _ hB, HS3.out.alloc _, fun k hk => ?_, fun k hk => ?_⟩
    · have := HF1.out k hk
      refine ⟨.inr this.1, ?_, ?_⟩
      · simp; omega
      · omega
    · refine ⟨by simp; omega, fun h => ?_, by omega⟩
      have := HF1.out k h
      omega
  rw [← hB]
  have HP := Lib.hid hP
  clear hP hB
  go_loopw [15, 16, 17] (fun i s1 s2 wr => ∃ (k : Nat) (L : List Int), k ≤ n ∧ i = .int .i64 k ∧ ChnOk low L ∧ L.length ≤ 20 + k ∧ Pr (fun _ => False) w B (.pointer (some ⟨b, 0, none⟩)) low L low L wr) (fun i _ _ _ => n - (intOf i).toNat)
  case atStart => exact ⟨0, N, Nat.zero_le _, rfl, HOK.out, by have := HN.out; omega, HP.out⟩
  case round =>
    obtain ⟨k, L, hk, rfl, hok, hll, hp⟩ := hrel
    have hp' := hp
    obtain ⟨A1, c1, G1, hR1, d0, d1, hG1, hst⟩ := hp.store (lv' := low) (Lv' := stepL low L (R.getD k 0))
    have HR1 := Lib.hid hR1
    have HG1 := Lib.hid hG1
    have HST := Lib.hid hst
    have HPP := Lib.hid hp'
    have HOKK := Lib.hid hok
    clear hp hp' hR1 hG1 hst hok
    by_cases hlt : k < n
    · have hkR : k < R.length := by rw [HL2.out]; exact hlt
      obtain ⟨bb, oo, cc, e, hGb, hbl, hcell⟩ := HS2.out.at_ hlt
      simp only [Value.slice.injEq, true_and] at e
      obtain ⟨rfl, rfl⟩ := e
      rw [List.getElem?_map, List.getElem?_eq_getElem hkR, Option.map_some] at hcell
      have hcr : wr.cell? ⟨bb, oo + k, none⟩ = some (.int .u8 R[k]) := (HPP.out.2.1.cell (p := ⟨bb, oo + k, none⟩) hbl id).trans hcell
      have hblr := HPP.out.2.1.size
      have hxb := wf_u8 (HB2.out R[k] (List.getElem_mem hkR))
      have hgd : R.getD k 0 = R[k] := by simp [List.getD, List.getElem?_eq_getElem hkR]
      rw [hgd] at HST
      have e5 : (k : Int) < (n : Int) := by omega
      generalize R[k] = s at *
      clear hcell hgd
      have HPU := Lib.hid (fun wx (hu : Upd (fun _ => False) wr wx) => rpush_all (HR1.out.still hu) HOKK.out s (by omega))
      have KS : Hid (∀ wx, Upd (fun _ => False) wr wx → Upd (fun _ => False) wr wx ∧ wx.cell? ⟨B, 0, none⟩ = some (.int .u64 (low : Int)) ∧ wx.cell? ⟨B, 1, none⟩ = some (.slice A1 L.length c1) ∧ wx.cell? ⟨bb, oo + k, none⟩ = some (.int .u8 s)) := fun wx hu => by
        obtain ⟨_, _, F, G, A', c', _, hb, _⟩ := HPP.out
        exact ⟨hu, (hu.cell (p := ⟨B, 0, none⟩) hb.lt id).trans d0, (hu.cell (p := ⟨B, 1, none⟩) hb.lt id).trans d1, (hu.cell (p := ⟨bb, oo + k, none⟩) (by show bb < _; omega) id).trans hcr⟩
      go_wp2_with fail
      go_region_held3 (fun wx => Upd (fun _ => False) wr wx ∧ wx.cell? ⟨B, 0, none⟩ = some (.int .u64 (low : Int)) ∧ wx.cell? ⟨B, 1, none⟩ = some (.slice A1 L.length c1) ∧ wx.cell? ⟨bb, oo + k, none⟩ = some (.int .u8 s))
        (first
          | exact KS.out _ (Upd.refl _ _).drew
          | exact KS.out _ ((Upd.refl _ _).drew.alloc _)
          | exact KS.out _ ((Upd.refl _ _).alloc _).drew
          | exact KS.out _ u1
          | exact KS.out _ (u1.alloc _)
          | exact KS.out _ ((u1.setCell (.inr (Nat.le_refl _)) _).setCell (.inr (Nat.le_refl _)) _)
          | exact KS.out _ (((u1.alloc _).setCell (.inr u1.size) _).setCell (.inr u1.size) _))
        (first
          | (go_at_call 14
             refine (HPU.out _ (by first | exact (Upd.refl _ _).drew | exact ((Upd.refl _ _).drew.alloc _) | exact ((Upd.refl _ _).alloc _).drew)).mono ?_
             rintro e w4 ⟨A4, c4, rfl, hu4, hs4⟩
             have u1 : Upd (fun _ => False) wr w4 := by first | exact (Upd.refl _ _).drew.trans hu4 (fun _ _ h => h) | exact ((Upd.refl _ _).drew.alloc _).trans hu4 (fun _ _ h => h) | exact ((Upd.refl _ _).alloc _).drew.trans hu4 (fun _ _ h => h)
             first
               | (have RB : Blk w4 wr.heap.size 36 #[.int .u64 0, .slice none 0 0] := (show Blk (wr.alloc (.cells #[.int .u64 0, .slice none 0 0] 36)).drew wr.heap.size 36 #[.int .u64 0, .slice none 0 0] from Blk.new wr _ _).upd hu4 id
                  have r0 : w4.cell? ⟨wr.heap.size, 0, none⟩ = some (.int .u64 0) := RB.cell 0
                  have r1 : w4.cell? ⟨wr.heap.size, 1, none⟩ = some (.slice none 0 0) := RB.cell 1
                  have r2 : w4.frozen? ⟨wr.heap.size, 0, none⟩ = false := RB.frozen 0
                  have r3 : w4.frozen? ⟨wr.heap.size, 1, none⟩ = false := RB.frozen 1
                  have HRB := Lib.hid RB
                  clear RB)
               | skip
             have HS4 := Lib.hid hs4
             have HU4 := Lib.hid hu4
             clear hs4 hu4))
      all_goals
        have hBl : B < wr.heap.size := by
          obtain ⟨_, _, F, G, A', c', _, hb, _⟩ := HPP.out
          exact hb.lt
        have hneB : bb ≠ B := by
          have := HPP.out.1
          rcases this with h | h
          · exact h.elim
          · omega
        first
          | (have RB5 : Blk ((w4.setCell ⟨wr.heap.size, 0, none⟩ (.int .u64 (low : Int))).setCell ⟨wr.heap.size, 1, none⟩ (.slice A4 (stepL low L s).length c4)) wr.heap.size 36 #[.int .u64 (low : Int), .slice A4 (stepL low L s).length c4] := by
               have := (HRB.out.set_ 0 (.int .u64 (low : Int))).set_ 1 (.slice A4 (stepL low L s).length c4)
               simp at this
               exact this
             have hu5 : Upd (fun _ => False) wr ((w4.setCell ⟨wr.heap.size, 0, none⟩ (.int .u64 (low : Int))).setCell ⟨wr.heap.size, 1, none⟩ (.slice A4 (stepL low L s).length c4)) := (u1.setCell (.inr (Nat.le_refl _)) _).setCell (.inr (Nat.le_refl _)) _
             have hs5 := (HS4.out.upd (Upd.setCell (F := fun k => k = wr.heap.size) (Upd.setCell (F := fun k => k = wr.heap.size) (Upd.refl _ w4) (p := ⟨wr.heap.size, 0, none⟩) (.inl rfl) (.int .u64 (low : Int))) (p := ⟨wr.heap.size, 1, none⟩) (.inl rfl) (.slice A4 (stepL low L s).length c4)) (fun g hg h => by
               rcases hg with hg | hg
               · have := (HG1.out g hg).1; omega
               · have := hg.1; simp at this; omega)).more (G := fun k => (G1 k ∨ wr.heap.size ≤ k) ∧ k < ((w4.setCell ⟨wr.heap.size, 0, none⟩ (.int .u64 (low : Int))).setCell ⟨wr.heap.size, 1, none⟩ (.slice A4 (stepL low L s).length c4)).heap.size) (fun k hk => by
               rcases hk with h | h
               · exact ⟨.inl h, by have := (HG1.out k h).1; have := hu5.size; omega⟩
               · exact ⟨.inr (by have := h.1; simp at this; omega), by simpa [World.setCell] using h.2⟩)
             have HB5 := Lib.hid RB5
             have HU5 := Lib.hid hu5
             have HS5 := Lib.hid hs5
             clear RB5 hu5 hs5
             have hcr5 : ((w4.setCell ⟨wr.heap.size, 0, none⟩ (.int .u64 (low : Int))).setCell ⟨wr.heap.size, 1, none⟩ (.slice A4 (stepL low L s).length c4)).cell? ⟨bb, oo + k, none⟩ = some (.int .u8 s) := (KS.out _ HU5.out).2.2.2
             generalize ((w4.setCell ⟨wr.heap.size, 0, none⟩ (.int .u64 (low : Int))).setCell ⟨wr.heap.size, 1, none⟩ (.slice A4 (stepL low L s).length c4)) = w5 at *
             generalize wr.heap.size = b16 at HB5 ⊢)
          | (have HB5 := Lib.hid (Blk.new w4 36 #[.int .u64 (low : Int), .slice A4 (stepL low L s).length c4])
             have HU5 := Lib.hid (u1.alloc (.cells #[.int .u64 (low : Int), .slice A4 (stepL low L s).length c4] 36))
             have HS5 := Lib.hid ((HS4.out.alloc (.cells #[.int .u64 (low : Int), .slice A4 (stepL low L s).length c4] 36)).more (G := fun k => (G1 k ∨ wr.heap.size ≤ k) ∧ k < (w4.alloc (.cells #[.int .u64 (low : Int), .slice A4 (stepL low L s).length c4] 36)).heap.size) (fun k hk => by
               rcases hk with h | h
               · exact ⟨.inl h, by have := (HG1.out k h).1; have := u1.size; simp; omega⟩
               · exact ⟨.inr h.1, by have := h.2; simp; omega⟩))
             have hcr5 : (w4.alloc (.cells #[.int .u64 (low : Int), .slice A4 (stepL low L s).length c4] 36)).cell? ⟨bb, oo + k, none⟩ = some (.int .u8 s) := (KS.out _ HU5.out).2.2.2
             generalize (w4.alloc (.cells #[.int .u64 (low : Int), .slice A4 (stepL low L s).length c4] 36)) = w5 at *
             generalize w4.heap.size = b16 at HB5 ⊢)
      all_goals
        rename_i hHeld
        clear HS4 HU4 HPU KS d0 d1 hcr u1
        try clear r0 r1 r2 r3 HRB
        have HBB : Hid (∃ x y, Blk wr B 36 #[x, y]) := by
          obtain ⟨_, _, F, G, A', c', _, hb, _⟩ := HPP.out
          exact ⟨_, _, hb⟩
        obtain ⟨x1, y1, hb0⟩ := HBB.out
        have HB0 := Lib.hid (hb0.upd HU5.out id)
        have p0 : w5.cell? ⟨b16, 0, none⟩ = some (.int .u64 (low : Int)) := HB5.out.cell 0
        have p1 : w5.cell? ⟨b16, 1, none⟩ = some (.slice A4 (stepL low L s).length c4) := HB5.out.cell 1
        have p2 : w5.cell? ⟨B, 0, none⟩ = some x1 := HB0.out.cell 0
        have p3 : w5.cell? ⟨B, 1, none⟩ = some y1 := HB0.out.cell 1
        have p4 : w5.frozen? ⟨B, 0, none⟩ = false := HB0.out.frozen 0
        have p5 : w5.frozen? ⟨B, 1, none⟩ = false := HB0.out.frozen 1
        clear hb0 HBB
        go_wp2_with fail
        have hu6a := Upd.setCell (F := fun k => k = B) (Upd.setCell (F := fun k => k = B) (Upd.refl _ w5) (p := ⟨B, 0, none⟩) (.inl rfl) (.int .u64 (low : Int))) (p := ⟨B, 1, none⟩) (.inl rfl) (.slice A4 (stepL low L s).length c4)
        have hu6 : Upd (fun k => k = B) wr ((w5.setCell ⟨B, 0, none⟩ (.int .u64 (low : Int))).setCell ⟨B, 1, none⟩ (.slice A4 (stepL low L s).length c4)) := (HU5.out.mono (fun _ _ h => h.elim)).trans hu6a (fun _ _ h => h)
        have hb6 : Blk ((w5.setCell ⟨B, 0, none⟩ (.int .u64 (low : Int))).setCell ⟨B, 1, none⟩ (.slice A4 (stepL low L s).length c4)) B 36 #[.int .u64 (low : Int), .slice A4 (stepL low L s).length c4] := by
          have := (HB0.out.set_ 0 (.int .u64 (low : Int))).set_ 1 (.slice A4 (stepL low L s).length c4)
          simp at this
          exact this
        have hs6 := (HS5.out.upd hu6a (fun g hg h => by
          rcases hg.1 with h' | h'
          · exact (HG1.out g h').2 h
          · omega)).more (G := fun k => (G1 k ∨ wr.heap.size ≤ k) ∧ k < ((w5.setCell ⟨B, 0, none⟩ (.int .u64 (low : Int))).setCell ⟨B, 1, none⟩ (.slice A4 (stepL low L s).length c4)).heap.size) (fun k hk => ⟨hk.1, Nat.lt_of_lt_of_le hk.2 hu6a.size⟩)
        obtain ⟨F6, hC6, hnext⟩ := (HST.out _ A4 c4 hu6 (hb6.cell 0) (hb6.cell 1) hb6 hs6).chain (lc' := low) (Lc' := stepL low L s)
        refine (cpush_all hC6 HOKK.out s (by omega) (by omega) (by omega)).mono ?_
        rintro e w7 ⟨rfl, hto⟩
        have HP7 := Lib.hid (hnext w7 hto)
        clear hu6a hu6 hb6 hs6 hC6 hnext hto p0 p1 p2 p3 p4 p5 hHeld hcr5
        go_wp2_with fail
        go_roundw
        case rel => exact ⟨k + 1, stepL low L s, by omega, by go_num, stepL_ok HOKK.out s, by have := stepL_len low L s; omega, HP7.out⟩
        case measure => simp [intOf]; omega
    · have hkn : k = n := by omega
      subst hkn
      obtain ⟨_, _, _, _, _, _, F, hC⟩ := HPP.out.cells
      have HAL := Lib.hid (alike_any hC HR1.out HOKK.out (by omega) frm to f0 f1 g0 g1)
      have HU := Lib.hid HPP.out.2.1
      clear hC
      go_wp2_with fail
      refine HAL.out.mono ?_
      rintro e w5 ⟨rfl, hu⟩
      have HU5 := Lib.hid hu
      clear hu
      go_wp2_with fail
      refine (wakes_true _).mono ?_
      rintro e w6 ⟨rfl, hu⟩
      have HU6 := Lib.hid hu
      clear hu
      go_wp2_with fail
      go_ret
      exact ⟨rfl, ((HU.out.trans HU5.out (fun _ _ h => h)).trans HU6.out (fun _ _ h => h)).below⟩
end Go.Proofs.Ytkcehpnppfmfnaa
