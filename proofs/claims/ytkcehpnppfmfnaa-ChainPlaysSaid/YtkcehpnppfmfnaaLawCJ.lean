/-
  ChainPlays: the walk of the statement's own text. Conditions: none.
-/
import Derived.Test.YtkcehpnppfmfnaaLawCI
import Derived.Test.YtkcehpnppfmfnaaLawCH
import Derived.Test.YtkcehpnppfmfnaaStruct
namespace Go.Proofs.Ytkcehpnppfmfnaa
open Go.RowKit

section
variable {M : Nat → Prop} {w1 wr wz : World} {B : Nat} {p : Value} {lc lv : Nat} {Lc Lv : List Int}
/-- Another chain in the place of the one at p. -/
theorem Pr.swap {p' : Value} {lc' : Nat} {Lc' : List Int} (h : Pr M w1 B p lc Lc lv Lv wr) (hn : ChnNew wr p' lc' Lc' wz) : Pr M w1 B p' lc' Lc' lv Lv wz := by
  obtain ⟨hB, hu1, F, G, A, c, hC, hb, hs, hF, hG⟩ := h
  obtain ⟨hu, F', hF', hC'⟩ := hn
  have hbl := hb.lt
  have hs1 := hu1.size
  refine ⟨hB, hu1.trans hu (fun _ _ h => h.elim), F', G, A, c, hC', hb.upd hu id, hs.upd hu (fun _ _ h => h), fun k hk => ?_, fun k hk => ?_⟩
  · have := hF' k hk
    exact ⟨.inr (by omega), by omega, by omega⟩
  · obtain ⟨g1, g2, g3⟩ := hG k hk
    refine ⟨Nat.lt_of_lt_of_le g1 hu.size, fun hf => ?_, g3⟩
    have := hF' k hf
    omega
theorem Pr.store2 (h : Pr M w1 B p lc Lc lv Lv wr) : ∃ A c G, RCh wr G (.agg #[.int .u64 (lv : Int), .slice A Lv.length c]) lv Lv ∧ wr.cell? ⟨B, 0, none⟩ = some (.int .u64 (lv : Int)) ∧ wr.cell? ⟨B, 1, none⟩ = some (.slice A Lv.length c) ∧
    (∀ k, G k → k < wr.heap.size) ∧ B < wr.heap.size ∧ ∀ (w6 : World), Upd (fun _ => False) wr w6 → (w6.cell? ⟨B, 0, none⟩ = some (.int .u64 (lv : Int)) ∧ w6.cell? ⟨B, 1, none⟩ = some (.slice A Lv.length c) ∧ w6.frozen? ⟨B, 0, none⟩ = false ∧ w6.frozen? ⟨B, 1, none⟩ = false) ∧
      ∀ A' c' (lv' : Nat) (Lv' : List Int), Sl w6 (fun k => G k ∨ (wr.heap.size ≤ k ∧ k < w6.heap.size)) 1 (.slice A' Lv'.length c') Lv'.length (Lv'.map (Value.int .u8)) →
        Pr M w1 B p lc Lc lv' Lv' ((w6.setCell ⟨B, 0, none⟩ (.int .u64 (lv' : Int))).setCell ⟨B, 1, none⟩ (.slice A' Lv'.length c')) := by
  obtain ⟨hB, hu1, F, G, A, c, hC, hb, hs, hF, hG⟩ := h
  refine ⟨A, c, G, ⟨A, c, rfl, hs⟩, hb.cell 0, hb.cell 1, fun k hk => (hG k hk).1, hb.lt, fun w6 hu => ?_⟩
  have hb6 := hb.upd hu id
  refine ⟨⟨hb6.cell 0, hb6.cell 1, hb6.frozen 0, hb6.frozen 1⟩, fun A' c' lv' Lv' hs' => ?_⟩
  have hbl := hb.lt
  have hu6a := Upd.setCell (F := fun k => k = B) (Upd.setCell (F := fun k => k = B) (Upd.refl _ w6) (p := ⟨B, 0, none⟩) (.inl rfl) (.int .u64 (lv' : Int))) (p := ⟨B, 1, none⟩) (.inl rfl) (.slice A' Lv'.length c')
  have hu6 : Upd (fun k => k = B) wr ((w6.setCell ⟨B, 0, none⟩ (.int .u64 (lv' : Int))).setCell ⟨B, 1, none⟩ (.slice A' Lv'.length c')) := (hu.mono (fun _ _ h => h.elim)).trans hu6a (fun _ _ h => h)
  have hbz : Blk ((w6.setCell ⟨B, 0, none⟩ (.int .u64 (lv' : Int))).setCell ⟨B, 1, none⟩ (.slice A' Lv'.length c')) B 36 #[.int .u64 (lv' : Int), .slice A' Lv'.length c'] := by
    have := (hb6.set_ 0 (.int .u64 (lv' : Int))).set_ 1 (.slice A' Lv'.length c')
    simp at this
    exact this
  refine ⟨hB, hu1.trans hu6 (fun i hi h => by subst h; rcases hB with h | h; exact h; omega), F, fun k => (G k ∨ wr.heap.size ≤ k) ∧ k < w6.heap.size, A', c', (hC.upd hu (fun _ _ h => h)).upd hu6a (fun k hk => (hF k hk).2.2), hbz, ?_, fun k hk => ⟨(hF k hk).1, Nat.lt_of_lt_of_le (hF k hk).2.1 hu6.size, (hF k hk).2.2⟩, fun k hk => ⟨Nat.lt_of_lt_of_le hk.2 hu6a.size, ?_, ?_⟩⟩
  · refine (hs'.upd hu6a (fun g hg h => ?_)).more (fun k hk => ?_)
    · rcases hg with h' | h'
      · exact (hG g h').2.2 h
      · omega
    · rcases hk with h' | h'
      · exact ⟨.inl h', Nat.lt_of_lt_of_le (hG k h').1 hu.size⟩
      · exact ⟨.inr h'.1, h'.2⟩
  · intro hf
    rcases hk.1 with h | h
    · exact (hG k h).2.1 hf
    · have := (hF k hf).2.1; omega
  · rcases hk.1 with h | h
    · exact (hG k h).2.2
    · omega
end

set_option maxRecDepth 100000 in
set_option maxHeartbeats 16000000 in
theorem chainPlays_walk (first : Int) (a1 : Option Addr) (n c1 : Nat) (frm to : Int) (w : World)
    (h0 : (Lit.int .u8 first).wf = true) (i1 : IsInts [.u8, .u8, .u64] w a1 n c1) (h3 : (Lit.int .u64 frm).wf = true) (h4 : (Lit.int .u64 to).wf = true) :
    Calls Try.prog 7 #[.int .u8 first, .slice a1 n c1, .int .u64 frm, .int .u64 to] w fun e w' => e = .returned (.bool true) ∧ Below w.heap.size w w' := by
  obtain ⟨k2, m2, hx⟩ := i1
  obtain ⟨t0, t1⟩ := wf_u8 h0
  obtain ⟨f0, f1⟩ := wf_u64' h3
  obtain ⟨g0, g1⟩ := wf_u64' h4
  have HX := Lib.hid hx
  clear h0 h3 h4 hx
  unfold maxLen at m2
  have j1 : (n : Int) ≤ 9223372036854775807 := by omega
  by_cases hbig : 100 < n
  · go_enter Try.func7, Try.ntmps7
    go_wp2_with fail
    refine (wakes_true w).mono ?_
    rintro e w' ⟨rfl, hu⟩
    have HU := Lib.hid hu
    clear hu
    go_wp2_with fail
    go_ret
    exact ⟨rfl, HU.out.below⟩
  have h40 : n ≤ 100 := by omega
  have q1 : decide ((100 : Int) < (n : Int)) = false := decide_eq_false (by omega)
  clear hbig j1
  by_cases hdd : dirB first = false
  · have HO := Lib.hid (new_bad first w t0 t1 hdd)
    have HR := Lib.hid (fun wx => rnew_bad first wx hdd)
    clear hdd
    go_enter Try.func7, Try.ntmps7
    go_wp2_with fail
    refine HO.out.mono ?_
    rintro e w1 ⟨rfl, rfl⟩
    go_wp2_with fail
    refine (HR.out _).mono ?_
    rintro e w2 ⟨rfl, hu⟩
    have HU := Lib.hid hu
    clear hu
    go_wp2_with fail
    refine (wakes_true _).mono ?_
    rintro e w3 ⟨rfl, hu⟩
    have HU3 := Lib.hid hu
    clear hu
    go_wp2_with fail
    go_ret
    exact ⟨rfl, ((HU.out.alloc _).trans HU3.out (fun _ _ h => h)).below⟩
  have hdd' : dirB first = true := by simpa using hdd
  have hfd := dirB_true hdd'
  have HO := Lib.hid (new_ok first w t0 t1 hdd')
  have HR := Lib.hid (fun wx => rnew_ok first wx hdd')
  have HOK : Hid (ChnOk 0 [first]) := ⟨by simp, by simp, fun x hx => by simp at hx; subst hx; exact hfd⟩
  clear hdd hdd'
  go_enter Try.func7, Try.ntmps7
  go_wp2_with fail
  refine HO.out.mono ?_
  rintro e w1 ⟨p, rfl, hu1, F1, hF1, hc1⟩
  obtain ⟨b, rfl⟩ := hc1.ptr
  have HU1 := Lib.hid hu1
  have HF1 := Lib.hid hF1
  have HC1 := Lib.hid hc1
  clear hu1 hF1 hc1
  go_wp2_with fail
  refine (HR.out _).mono ?_
  rintro e w2 ⟨v, rfl, hu2, A, c, rfl, hs2⟩
  have HU2 := Lib.hid hu2
  have HS2 : Hid (Sl w2 (fun k => w1.heap.size ≤ k ∧ k < w2.heap.size) 1 (.slice A 1 c) 1 [.int .u8 first]) := hs2
  clear hu2 hs2
  go_wp2_with fail
  obtain ⟨B, hB⟩ : ∃ B, B = w2.heap.size := ⟨_, rfl⟩
  obtain ⟨w3, hw3⟩ : ∃ w3, w3 = w2.alloc (.cells #[.int .u64 0, .slice A 1 c] 36) := ⟨_, rfl⟩
  rw [← hB, ← hw3]
  have hu23 : Upd (fun _ => False) w2 w3 := by rw [hw3]; exact (Upd.refl _ _).alloc _
  have hb3 : Blk w3 B 36 #[.int .u64 0, .slice A 1 c] := by rw [hw3]; exact Blk.newAt _ _ _ hB
  have hz3 : w3.heap.size = B + 1 := by rw [hw3, hB]; simp
  have hz1 : w.heap.size ≤ w1.heap.size := HU1.out.size
  have hz2 : w1.heap.size ≤ B := by rw [hB]; exact HU2.out.size
  have HC3 := Lib.hid ((HC1.out.upd HU2.out (fun _ _ h => h)).upd hu23 (fun _ _ h => h))
  have HS3 : Hid (Sl w3 (fun k => w1.heap.size ≤ k ∧ k < B) 1 (.slice A 1 c) 1 [.int .u8 first]) := (HS2.out.upd hu23 (fun _ _ h => h)).more (fun k hk => by rw [hB]; exact hk)
  have HU3 := Lib.hid ((HU1.out.trans HU2.out (fun _ _ h => h)).trans hu23 (fun _ _ h => h))
  have HB3 := Lib.hid hb3
  clear hu23 hb3 hB hw3 HC1 HU2 HS2 HO HR HU1
  refine (copy_any HC3.out (by simp)).mono ?_
  rintro e w4 ⟨q, rfl, hu4, Fq, hFq, hCq⟩
  obtain ⟨bq, rfl⟩ := hCq.ptr
  have b0 : w4.cell? ⟨B, 0, none⟩ = some (.int .u64 0) := (HB3.out.upd hu4 id).cell 0
  have b1 : w4.cell? ⟨B, 1, none⟩ = some (.slice A 1 c) := (HB3.out.upd hu4 id).cell 1
  have HU4 := Lib.hid hu4
  have HFQ := Lib.hid hFq
  have HCQ := Lib.hid hCq
  clear hu4 hFq hCq
  go_wp2_with fail
  obtain ⟨B2, hB2⟩ : ∃ B2, B2 = w4.heap.size := ⟨_, rfl⟩
  obtain ⟨wS, hwS⟩ : ∃ wS, wS = w4.alloc (.cells #[.int .u64 0, .slice A 1 c] 36) := ⟨_, rfl⟩
  rw [← hB2, ← hwS]
  have huS : Upd (fun _ => False) w4 wS := by rw [hwS]; exact (Upd.refl _ _).alloc _
  have hbS : Blk wS B2 36 #[.int .u64 0, .slice A 1 c] := by rw [hwS]; exact Blk.newAt _ _ _ hB2
  have hzS : wS.heap.size = B2 + 1 := by rw [hwS, hB2]; simp
  have hz4 : B + 1 ≤ B2 := by rw [hB2, ← hz3]; exact HU4.out.size
  have hu3S := HU4.out.trans huS (fun _ _ h => h)
  obtain ⟨M, hM⟩ : ∃ M : Nat → Prop, M = fun k => F1 k ∨ k = B := ⟨_, rfl⟩
  have HM : Hid (∀ k, M k → w.heap.size ≤ k ∧ k ≤ B ∧ ¬ (w1.heap.size ≤ k ∧ k < B)) := fun k hk => by
    rw [hM] at hk
    rcases hk with h | h
    · have := HF1.out k h; omega
    · omega
  have HP : Hid (Pr M wS B (.pointer (some ⟨b, 0, none⟩)) 0 [first] 0 [first] wS) := by
    refine ⟨.inl (by rw [hM]; exact .inr rfl), Upd.refl _ _, F1, _, A, c, HC3.out.upd hu3S (fun _ _ h => h), HB3.out.upd hu3S id, HS3.out.upd hu3S (fun _ _ h => h), fun k hk => ?_, fun k hk => ?_⟩
    · have := HF1.out k hk
      exact ⟨.inl (by rw [hM]; exact .inl hk), by omega, by omega⟩
    · refine ⟨by omega, fun h => ?_, by omega⟩
      have := HF1.out k h
      omega
  have HUS := Lib.hid (HU3.out.trans hu3S (fun _ _ h => h))
  have HCS := Lib.hid (HCQ.out.upd huS (fun _ _ h => h))
  have HFS : Hid (∀ k, Fq k → ¬ M k) := fun k hk h => by have := HFQ.out k hk; have := HM.out k h; omega
  have HBS := Lib.hid hbS
  have HMB : Hid (¬ M B2) := fun h => by have := HM.out _ h; omega
  have HSS : Hid (Sl wS (fun k => w1.heap.size ≤ k ∧ k < B) 1 (.slice A 1 c) 1 [.int .u8 first]) := HS3.out.upd hu3S (fun _ _ h => h)
  clear huS hbS hu3S hM hwS hB2 b0 b1 HC3 HS3 HU3 HB3 HU4 HCQ HF1 HFQ
  go_loopw [9, 15, 16, 17] (fun pv i s1 s2 wr => ∃ (k low : Nat) (L : List Int) (bp : Nat), k ≤ n ∧ pv = .pointer (some ⟨bp, 0, none⟩) ∧ i = .int .i64 k ∧ ChnOk low L ∧ Full low L ∧ L.length ≤ 1 + k ∧ Pr M wS B (.pointer (some ⟨bp, 0, none⟩)) low L low L wr) (fun _ i _ _ _ => n - (intOf i).toNat)
  case atStart => exact ⟨0, 0, [first], b, Nat.zero_le _, rfl, rfl, HOK.out, .inl rfl, by simp, HP.out⟩
  case round =>
    obtain ⟨k, low, L, bp, hk, rfl, rfl, hok, hfull, hll, hp⟩ := hrel
    have HPP := Lib.hid hp
    have HOKK := Lib.hid hok
    have HFUL := Lib.hid hfull
    clear hp hok hfull
    by_cases hlt : k < n
    · obtain ⟨bb, oo, zs, rfl, hbb, hcl⟩ := HX.out (by omega)
      have hc0 := hcl k hlt 0 .u8 rfl
      have hc1 := hcl k hlt 1 .u8 rfl
      have hc2 := hcl k hlt 2 .u64 rfl
      simp only [List.length_cons, List.length_nil, Nat.zero_add, Nat.reduceAdd, Nat.add_zero] at hc0 hc1 hc2
      rw [← Nat.add_assoc] at hc1 hc2
      have HCL : Hid (∀ wx, Upd M wS wx → wx.cell? ⟨bb, oo + k * 3, none⟩ = some (.int .u8 (zs k 0)) ∧ wx.cell? ⟨bb, oo + k * 3 + 1, none⟩ = some (.int .u8 (zs k 1)) ∧ wx.cell? ⟨bb, oo + k * 3 + 2, none⟩ = some (.int .u64 (zs k 2))) := fun wx hu => by
        have hn : ∀ p : Addr, p.block = bb → wx.cell? p = w.cell? p := fun p hp => by
          have := HUS.out.size
          exact (hu.cell (p := p) (by omega) (fun h => by have := HM.out _ h; omega)).trans (HUS.out.cell (by omega) id)
        exact ⟨(hn _ rfl).trans hc0.1, (hn _ rfl).trans hc1.1, (hn _ rfl).trans hc2.1⟩
      obtain ⟨d0, d1, d2⟩ := HCL.out wr HPP.out.2.1
      have hb1 := wf_u8 hc1.2
      have hb2 := wf_u64' hc2.2
      have e5 : (k : Int) < (n : Int) := by omega
      clear hc0 hc1 hc2 hcl
      generalize zs k 0 = z0 at *
      generalize zs k 1 = z1 at *
      generalize zs k 2 = z2 at *
      by_cases hz0 : z0 = 0
      · subst hz0
        obtain ⟨F, hC, hnext⟩ := HPP.out.chain (lc' := relN low L z2) (Lc' := relL low L z2)
        have HCR := Lib.hid (crel_all hC HOKK.out z2 hb2.1 (by omega))
        have HNX := Lib.hid hnext
        clear hC hnext
        go_wp2_with fail
        refine HCR.out.mono ?_
        rintro e w5 ⟨rfl, hto⟩
        have HP5 := Lib.hid (HNX.out w5 hto)
        obtain ⟨A5, c5, G5, hR5, b0, b1, hG5, hB5, hst5⟩ := HP5.out.store2
        obtain ⟨d0', d1', d2'⟩ := HCL.out w5 HP5.out.2.1
        have HST5 := Lib.hid hst5
        have HRR := Lib.hid (fun wx (hu : Upd (fun _ => False) w5 wx) => rrel_all (hR5.still hu) HOKK.out z2 hb2.1 hb2.2 (fun k hk => Nat.lt_of_lt_of_le (hG5 k hk) hu.size))
        clear hto hR5 hG5 hst5 HCR HNX
        go_wp2_with fail
        go_region_with (go_at_call 24; refine (HRR.out _ (Upd.refl _ _).drew).mono ?_; rintro e w6 ⟨A6, c6, rfl, hu6, hs6⟩; obtain ⟨⟨p0, p1, p2, p3⟩, hst6⟩ := HST5.out w6 ((Upd.refl _ _).drew.trans hu6 (fun _ _ h => h)); have HP6 := Lib.hid (hst6 A6 c6 (relN low L z2) (relL low L z2) hs6); clear hu6 hs6 hst6)
        all_goals
          clear p0 p1 p2 p3 d0 d1 d2 d0' d1' d2' b0 b1
          generalize ((w6.setCell ⟨B, 0, none⟩ (.int .u64 (relN low L z2 : Int))).setCell ⟨B, 1, none⟩ (.slice A6 (relL low L z2).length c6)) = w7 at HP6 ⊢
          obtain ⟨A7, c7, G7, r0, r1, hR7, F7, hC7⟩ := HP6.out.cells
          have HKK := Lib.hid (show ChnOk (relN low L z2) (relL low L z2) ∧ Full (relN low L z2) (relL low L z2) from ⟨(rel_keeps HOKK.out HFUL.out z2).1, (rel_keeps HOKK.out HFUL.out z2).2.1⟩)
          have hlk : (relL low L z2).length ≤ L.length + 1 := by have := (rel_keeps HOKK.out HFUL.out z2).2.2; omega
          have HAL := Lib.hid (alike_any hC7 hR7 HKK.out.1 (by omega) frm to f0 f1 g0 g1)
          clear hR7 hC7
          go_wp2_with fail
          refine HAL.out.mono ?_
          rintro e w8 ⟨rfl, hu8⟩
          have HP8 := Lib.hid (HP6.out.still hu8)
          clear hu8
          go_wp2_with fail
          go_roundw
          case rel => exact ⟨k + 1, relN low L z2, relL low L z2, bp, by omega, rfl, by go_num, HKK.out.1, HKK.out.2, by omega, HP8.out⟩
          case measure => simp [intOf]; omega
      · have hz0' : (z0 == 0) = false := beq_eq_false_iff_ne.2 hz0
        clear hz0
        by_cases hz1 : z0 = 1
        · subst hz1
          clear hz0'
          obtain ⟨_, _, _, _, _, _, F, hC⟩ := HPP.out.cells
          have HTP := Lib.hid (top_any hC HOKK.out)
          have HTL := Lib.hid (fun q => tail_any (hC.drewN q) HOKK.out (by omega))
          have HCO := Lib.hid (fun wx => cof_tail HOKK.out HFUL.out wx)
          have HRO := Lib.hid (fun wx => rof_tail HOKK.out HFUL.out wx)
          have HKP := Lib.hid (of_keeps HOKK.out HFUL.out)
          have HRL0 := Lib.hid (fun (wx : World) (G : Nat → Prop) (v : Value) (h : RCh wx G v low L) => rtail_any h (by omega) HOKK.out.1)
          generalize strOfNums (L.drop (L.length - 3)) = tl at HTL HCO HRO HRL0
          generalize L.drop (L.length - 3) = LN at HCO HRO HKP
          generalize low + (L.length - 3) = lowN at HCO HRO HKP
          clear hC
          go_wp2_with fail
          refine HTP.out.mono ?_
          rintro e wa ⟨rfl, qa, rfl⟩
          go_wp2_with fail
          refine (HTL.out _).mono ?_
          rintro e wb ⟨rfl, hub⟩
          have HUB := Lib.hid (((Upd.refl (fun _ => False) wr).drewN qa).trans hub (fun _ _ h => h))
          clear hub
          go_wp2_with fail
          refine (HCO.out _).mono ?_
          rintro e w5 ⟨b5, rfl, hnew⟩
          have HP5 := Lib.hid ((HPP.out.still HUB.out).swap hnew)
          obtain ⟨A5, c5, G5, hR5, b0, b1, hG5, hB5, hst5⟩ := HP5.out.store2
          have HST5 := Lib.hid hst5
          have HRT := Lib.hid (fun wx (hu : Upd (fun _ => False) w5 wx) => rtop_any (hR5.still hu) HOKK.out)
          have HRL := Lib.hid (fun wx (hu : Upd (fun _ => False) w5 wx) => HRL0.out wx _ _ (hR5.still hu))
          clear hnew hR5 hG5 hst5 HTP HTL HCO d0 d1 d2
          go_wp2_with fail
          go_region_with (first
            | (go_at_call 25
               refine (HRT.out _ (Upd.refl _ _).drew).mono ?_
               rintro e w6 ⟨rfl, hu6⟩
               have u6 := (Upd.refl (fun _ => False) w5).drew.trans hu6 (fun _ _ h => h)
               obtain ⟨⟨p0, p1, p2, p3⟩, _⟩ := HST5.out w6 u6
               clear hu6)
            | (go_at_call 26
               refine (HRL.out _ u6).mono ?_
               rintro e w7 ⟨rfl, hu7⟩
               have u7 := u6.trans hu7 (fun _ _ h => h)
               obtain ⟨⟨o0, o1, o2, o3⟩, _⟩ := HST5.out w7 u7
               clear hu7)
            | (go_at_call 13
               refine (HRO.out _).mono ?_
               rintro e w8 ⟨A6, c6, rfl, hu8, hs8⟩
               obtain ⟨⟨n0, n1, n2, n3⟩, hst8⟩ := HST5.out w8 (u7.trans hu8 (fun _ _ h => h))
               have HP9 := Lib.hid (hst8 A6 c6 (lowN) LN (hs8.more (fun k hk => .inr ⟨Nat.le_trans u7.size hk.1, hk.2⟩)))
               clear hu8 hs8 hst8))
          all_goals
            clear p0 p1 p2 p3 o0 o1 o2 o3 n0 n1 n2 n3 b0 b1 u6 u7
            generalize ((w8.setCell ⟨B, 0, none⟩ (.int .u64 (lowN : Int))).setCell ⟨B, 1, none⟩ (.slice A6 LN.length c6)) = w7 at HP9 ⊢
            obtain ⟨A7, c7, G7, r0, r1, hR7, F7, hC7⟩ := HP9.out.cells
            have HKK := Lib.hid (show ChnOk (lowN) LN ∧ Full (lowN) LN from ⟨HKP.out.1, HKP.out.2.1⟩)
            have hlk : LN.length ≤ L.length + 1 := by have := HKP.out.2.2; omega
            have HAL := Lib.hid (alike_any hC7 hR7 HKK.out.1 (by omega) frm to f0 f1 g0 g1)
            clear hR7 hC7
            go_wp2_with fail
            refine HAL.out.mono ?_
            rintro e w10 ⟨rfl, hu10⟩
            have HP8 := Lib.hid (HP9.out.still hu10)
            clear hu10
            go_wp2_with fail
            go_roundw
            case rel => exact ⟨k + 1, lowN, LN, b5, by omega, rfl, by go_num, HKK.out.1, HKK.out.2, by omega, HP8.out⟩
            case measure => simp [intOf]; omega
        · have hz1' : (z0 == 1) = false := beq_eq_false_iff_ne.2 hz1
          clear hz1
          obtain ⟨F, hC, hnext⟩ := HPP.out.chain (lc' := low) (Lc' := stepL low L z1)
          have HCR := Lib.hid (cpush_all hC HOKK.out z1 hb1.1 hb1.2 (by omega))
          have HNX := Lib.hid hnext
          clear hC hnext
          go_wp2_with fail
          refine HCR.out.mono ?_
          rintro e w5 ⟨rfl, hto⟩
          have HP5 := Lib.hid (HNX.out w5 hto)
          obtain ⟨A5, c5, G5, hR5, b0, b1, hG5, hB5, hst5⟩ := HP5.out.store2
          obtain ⟨d0', d1', d2'⟩ := HCL.out w5 HP5.out.2.1
          have HST5 := Lib.hid hst5
          have HRR := Lib.hid (fun wx (hu : Upd (fun _ => False) w5 wx) => rpush_all (hR5.still hu) HOKK.out z1 (by omega))
          clear hto hR5 hG5 hst5 HCR HNX
          go_wp2_with fail
          go_region_with (go_at_call 14; refine (HRR.out _ (Upd.refl _ _).drew).mono ?_; rintro e w6 ⟨A6, c6, rfl, hu6, hs6⟩; obtain ⟨⟨p0, p1, p2, p3⟩, hst6⟩ := HST5.out w6 ((Upd.refl _ _).drew.trans hu6 (fun _ _ h => h)); have HP6 := Lib.hid (hst6 A6 c6 low (stepL low L z1) hs6); clear hu6 hs6 hst6)
          all_goals
            clear p0 p1 p2 p3 d0 d1 d2 d0' d1' d2' b0 b1
            generalize ((w6.setCell ⟨B, 0, none⟩ (.int .u64 (low : Int))).setCell ⟨B, 1, none⟩ (.slice A6 (stepL low L z1).length c6)) = w7 at HP6 ⊢
            obtain ⟨A7, c7, G7, r0, r1, hR7, F7, hC7⟩ := HP6.out.cells
            have HKK := Lib.hid (show ChnOk low (stepL low L z1) ∧ Full low (stepL low L z1) from ⟨stepL_ok HOKK.out z1, step_full HFUL.out z1⟩)
            have hlk : (stepL low L z1).length ≤ L.length + 1 := stepL_len low L z1
            have HAL := Lib.hid (alike_any hC7 hR7 HKK.out.1 (by omega) frm to f0 f1 g0 g1)
            clear hR7 hC7
            go_wp2_with fail
            refine HAL.out.mono ?_
            rintro e w8 ⟨rfl, hu8⟩
            have HP8 := Lib.hid (HP6.out.still hu8)
            clear hu8
            go_wp2_with fail
            go_roundw
            case rel => exact ⟨k + 1, low, stepL low L z1, bp, by omega, rfl, by go_num, HKK.out.1, HKK.out.2, by omega, HP8.out⟩
            case measure => simp [intOf]; omega
    · have hkn : k = n := by omega
      subst hkn
      have hz5 := HPP.out.2.1
      have hCq := HCS.out.upd hz5 HFS.out
      have hbq := HBS.out.upd hz5 HMB.out
      have b0 : wr.cell? ⟨B2, 0, none⟩ = some (.int .u64 0) := hbq.cell 0
      have b1 : wr.cell? ⟨B2, 1, none⟩ = some (.slice A 1 c) := hbq.cell 1
      have hRq : RCh wr (fun k => w1.heap.size ≤ k ∧ k < B) (.agg #[.int .u64 0, .slice A 1 c]) 0 [first] := ⟨A, c, rfl, HSS.out.upd hz5 (fun g hg hm => by have := HM.out g hm; omega)⟩
      have HAL := Lib.hid (alike_any hCq hRq HOK.out (by simp) frm to f0 f1 g0 g1)
      have HU := Lib.hid (HUS.out.trans hz5 (fun i hi h => by have := HM.out i h; omega))
      clear hCq hbq hRq hz5
      go_wp2_with fail
      refine HAL.out.mono ?_
      rintro e w5 ⟨rfl, hu⟩
      have HU5 := Lib.hid hu
      clear hu
      go_wp2_with fail
      refine (wakes_true _).mono ?_
      rintro e w6 ⟨rfl, hu⟩
      have HU6 := Lib.hid hu
      clear hu
      go_wp2_with fail
      go_ret
      exact ⟨rfl, ((HU.out.trans HU5.out (fun _ _ h => h)).trans HU6.out (fun _ _ h => h)).below⟩
end Go.Proofs.Ytkcehpnppfmfnaa
