/-
  The statements' own alike: a chain in memory and a chain of the reference tell the same. Conditions: the chain's numbers lie within the document's bounds; at most 1000 directories.
-/
import Derived.Test.YtkcehpnppfmfnaaRefF
import Derived.Test.YtkcehpnppfmfnaaLawCA
namespace Go.Proofs.Ytkcehpnppfmfnaa
open Go.RowKit

/-- What alike keeps: nothing of old has changed, and its own copy of the reference's chain stands. -/
def AS (w0 : World) (b : Nat) (x y : Value) (wx : World) : Prop := Upd (fun _ => False) w0 wx ∧ wx.cell? ⟨b, 0, none⟩ = some x ∧ wx.cell? ⟨b, 1, none⟩ = some y
theorem AS.step {w0 wx wy : World} {b : Nat} {x y : Value} (hb : b < w0.heap.size) (h : AS w0 b x y wx) (hu : Upd (fun _ => False) wx wy) : AS w0 b x y wy :=
  ⟨h.1.trans hu (fun _ _ h => h), (hu.cell (p := ⟨b, 0, none⟩) (Nat.lt_of_lt_of_le hb h.1.size) id).trans h.2.1, (hu.cell (p := ⟨b, 1, none⟩) (Nat.lt_of_lt_of_le hb h.1.size) id).trans h.2.2⟩

section
variable {w0 : World} {F G : Nat → Prop} {p v : Value} {low : Nat} {L : List Int} {b : Nat} {x y : Value}
theorem as_low (hC : Chn w0 F p low L) (hb : b < w0.heap.size) (wx : World) (h : AS w0 b x y wx) : Calls Try.prog 18 #[p] wx fun e w' => e = .returned (.int .u64 (low : Int)) ∧ AS w0 b x y w' :=
  (low_any (hC.upd h.1 (fun _ _ h => h))).mono fun _ _ ⟨he, hw⟩ => ⟨he, hw ▸ h⟩
theorem as_top (hC : Chn w0 F p low L) (hok : ChnOk low L) (hb : b < w0.heap.size) (wx : World) (h : AS w0 b x y wx) : Calls Try.prog 11 #[p] wx fun e w' => e = .returned (.int .u64 ((low : Int) + (L.length : Int) - 1)) ∧ AS w0 b x y w' :=
  (top_any (hC.upd h.1 (fun _ _ h => h)) hok).mono fun _ _ ⟨he, n, hw⟩ => ⟨he, by rw [hw]; exact h.step hb ((Upd.refl _ _).drewN n)⟩
theorem as_tail (hC : Chn w0 F p low L) (hok : ChnOk low L) (hl : L.length ≤ 1000000) (hb : b < w0.heap.size) (wx : World) (h : AS w0 b x y wx) : Calls Try.prog 20 #[p] wx fun e w' => e = .returned (.string (strOfNums (L.drop (L.length - 3)))) ∧ AS w0 b x y w' :=
  (tail_any (hC.upd h.1 (fun _ _ h => h)) hok hl).mono fun _ _ ⟨he, hu⟩ => ⟨he, h.step hb hu⟩
theorem as_at (hC : Chn w0 F p low L) (hok : ChnOk low L) (hb : b < w0.heap.size) (wx : World) (h : AS w0 b x y wx) (s : Int) (h0 : 0 ≤ s) (h1 : s ≤ 18446744073709551615) : Calls Try.prog 10 #[p, .int .u64 s] wx fun e w' => e = .returned (.tuple #[.int .u8 (atS low L s), .bool (atB low L s)]) ∧ AS w0 b x y w' :=
  (at_any (hC.upd h.1 (fun _ _ h => h)) hok s h0 h1).mono fun _ _ ⟨he, n, hw⟩ => ⟨he, by rw [hw]; exact h.step hb ((Upd.refl _ _).drewN n)⟩
theorem as_span (hC : Chn w0 F p low L) (hok : ChnOk low L) (hb : b < w0.heap.size) (frm to : Int) (hf0 : 0 ≤ frm) (hf1 : frm ≤ 18446744073709551615) (ht0 : 0 ≤ to) (ht1 : to ≤ 18446744073709551615) (wx : World) (h : AS w0 b x y wx) : Calls Try.prog 19 #[p, .int .u64 frm, .int .u64 to] wx fun e w' => e = .returned (.int .u8 (spanF (knL low L frm to))) ∧ AS w0 b x y w' :=
  (span_any (hC.upd h.1 (fun _ _ h => h)) hok frm to hf0 hf1 ht0 ht1).mono fun _ _ ⟨he, hu⟩ => ⟨he, h.step hb hu⟩
theorem as_rtop (hR : RCh w0 G v low L) (hok : ChnOk low L) (hb : b < w0.heap.size) (wx : World) (h : AS w0 b x y wx) : Calls Try.prog 25 #[v] wx fun e w' => e = .returned (.int .u64 ((low : Int) + (L.length : Int) - 1)) ∧ AS w0 b x y w' :=
  (rtop_any (hR.still h.1) hok).mono fun _ _ ⟨he, hu⟩ => ⟨he, h.step hb hu⟩
theorem as_rtail (hR : RCh w0 G v low L) (hok : ChnOk low L) (hl : L.length ≤ 1000000) (hb : b < w0.heap.size) (wx : World) (h : AS w0 b x y wx) : Calls Try.prog 26 #[v] wx fun e w' => e = .returned (.string (strOfNums (L.drop (L.length - 3)))) ∧ AS w0 b x y w' :=
  (rtail_any (hR.still h.1) hl hok.1).mono fun _ _ ⟨he, hu⟩ => ⟨he, h.step hb hu⟩
theorem as_rat (hR : RCh w0 G v low L) (hok : ChnOk low L) (hb : b < w0.heap.size) (wx : World) (h : AS w0 b x y wx) (s : Int) (h0 : 0 ≤ s) (h1 : s ≤ 18446744073709551615) : Calls Try.prog 31 #[v, .int .u64 s] wx fun e w' => e = .returned (.tuple #[.int .u8 (atS low L s), .bool (atB low L s)]) ∧ AS w0 b x y w' :=
  (rat_any (hR.still h.1) hok s h0 h1).mono fun _ _ ⟨he, hu⟩ => ⟨he, h.step hb hu⟩
theorem as_rspan (hR : RCh w0 G v low L) (hok : ChnOk low L) (hl : L.length ≤ 1000) (hb : b < w0.heap.size) (frm to : Int) (hf0 : 0 ≤ frm) (hf1 : frm ≤ 18446744073709551615) (ht0 : 0 ≤ to) (ht1 : to ≤ 18446744073709551615) (wx : World) (h : AS w0 b x y wx) : Calls Try.prog 30 #[v, .int .u64 frm, .int .u64 to] wx fun e w' => e = .returned (.int .u8 (spanF (knL low L frm to))) ∧ AS w0 b x y w' :=
  (rspan_any (hR.still h.1) hok hl frm to hf0 hf1 ht0 ht1).mono fun _ _ ⟨he, hu⟩ => ⟨by rw [he, span_same hok frm to hf0 ht0], h.step hb hu⟩
end

set_option maxRecDepth 100000 in
set_option maxHeartbeats 4000000 in
theorem alike_any {w : World} {F G : Nat → Prop} {p v : Value} {low : Nat} {L : List Int} (hC : Chn w F p low L) (hR : RCh w G v low L) (hok : ChnOk low L) (hl : L.length ≤ 1000) (frm to : Int) (hf0 : 0 ≤ frm) (hf1 : frm ≤ 18446744073709551615) (ht0 : 0 ≤ to) (ht1 : to ≤ 18446744073709551615) :
    Calls Try.prog 16 #[p, v, .int .u64 frm, .int .u64 to] w fun e w' => e = .returned (.bool true) ∧ Upd (fun _ => False) w w' := by
  have hR' := hR
  obtain ⟨A, c, rfl, _⟩ := hR
  obtain ⟨b, rfl⟩ := hC.ptr
  obtain ⟨w0, hw0⟩ : ∃ w0, w0 = w.alloc (.cells #[.int .u64 (low : Int), .slice A L.length c] 36) := ⟨_, rfl⟩
  have hu0 : Upd (fun _ => False) w w0 := by rw [hw0]; exact (Upd.refl _ _).alloc _
  have hbk : Blk w0 w.heap.size 36 #[.int .u64 (low : Int), .slice A L.length c] := by rw [hw0]; exact Blk.new _ _ _
  have hC0 := hC.upd hu0 (fun _ _ h => h)
  have hR0 := hR'.still hu0
  have HLOW := Lib.hid (as_low hC0 hbk.lt (x := .int .u64 (low : Int)) (y := .slice A L.length c))
  have HTOP := Lib.hid (as_top hC0 hok hbk.lt (x := .int .u64 (low : Int)) (y := .slice A L.length c))
  have HTAIL := Lib.hid (as_tail hC0 hok (by omega) hbk.lt (x := .int .u64 (low : Int)) (y := .slice A L.length c))
  have HAT := Lib.hid (as_at hC0 hok hbk.lt (x := .int .u64 (low : Int)) (y := .slice A L.length c))
  have HSPAN := Lib.hid (as_span hC0 hok hbk.lt frm to hf0 hf1 ht0 ht1 (x := .int .u64 (low : Int)) (y := .slice A L.length c))
  have HRTOP := Lib.hid (as_rtop hR0 hok hbk.lt (x := .int .u64 (low : Int)) (y := .slice A L.length c))
  have HRTAIL := Lib.hid (as_rtail hR0 hok (by omega) hbk.lt (x := .int .u64 (low : Int)) (y := .slice A L.length c))
  have HRAT := Lib.hid (as_rat hR0 hok hbk.lt (x := .int .u64 (low : Int)) (y := .slice A L.length c))
  have HRSPAN := Lib.hid (as_rspan hR0 hok hl hbk.lt frm to hf0 hf1 ht0 ht1 (x := .int .u64 (low : Int)) (y := .slice A L.length c))
  have HA0 : Hid (AS w0 w.heap.size (.int .u64 (low : Int)) (.slice A L.length c) w0) := ⟨Upd.refl _ _, hbk.cell 0, hbk.cell 1⟩
  have hbl := hbk.lt
  have HU0 := Lib.hid hu0
  have HW0 := Lib.hid hw0
  obtain ⟨k0, k1, k2⟩ := hok
  clear hC hR' hC0 hR0 hu0 hbk k2 hw0
  generalize strOfNums (L.drop (L.length - 3)) = tl at *
  generalize spanF (knL low L frm to) = sp at *
  generalize hn : L.length = n at *
  clear hn
  go_enter Try.func16, Try.ntmps16
  go_wp2_with fail
  rw [← HW0.out]
  go_region_held3 (fun wx => Upd (fun _ => False) w0 wx ∧ wx.cell? ⟨w.heap.size, 0, none⟩ = some (.int .u64 (low : Int)) ∧ wx.cell? ⟨w.heap.size, 1, none⟩ = some (.slice A n c))
    (first
      | assumption
      | exact AS.step hbl HA0.out (Upd.refl _ _).drew)
    (first
      | (go_at_call 18; refine (HLOW.out _ (by first | assumption | exact AS.step hbl HA0.out (Upd.refl _ _).drew)).mono ?_; rintro e w1 ⟨rfl, hS1⟩)
      | (go_at_call 11; refine (HTOP.out _ (by assumption)).mono ?_; rintro e w2 ⟨rfl, hS2⟩)
      | (go_at_call 25; refine (HRTOP.out _ (by assumption)).mono ?_; rintro e w3 ⟨rfl, hS3⟩)
      | (go_at_call 20; refine (HTAIL.out _ (by assumption)).mono ?_; rintro e w4 ⟨rfl, hS4⟩)
      | (go_at_call 26; refine (HRTAIL.out _ (by assumption)).mono ?_; rintro e w5 ⟨rfl, hS5⟩)
      | (go_at_call 19; refine (HSPAN.out _ (by assumption)).mono ?_; rintro e w6 ⟨rfl, hS6⟩)
      | (go_at_call 30; refine (HRSPAN.out _ (by assumption)).mono ?_; rintro e w7 ⟨rfl, hS7⟩))
  obtain ⟨_, c0, c1⟩ := id hS7
  have HS7 : Hid (AS w0 w.heap.size (.int .u64 (low : Int)) (.slice A n c) w7) := hS7
  clear hS1 hS2 hS3 hS4 hS5 hS6 hS7
  clear HLOW HTOP HTAIL HSPAN HRTAIL HRSPAN HA0
  by_cases h2 : (2 : Int) < (low : Int)
  · go_wp2_with fail
    go_loopw [10, 11, 12, 13, 14] (fun s s1 s2 s3 s4 wr => ∃ z : Int, s = .int .u64 z ∧ ((low : Int) - 2) ≤ z ∧ z ≤ ((low : Int) - 2) + 401 ∧ AS w0 w.heap.size (.int .u64 (low : Int)) (.slice A n c) wr) (fun s _ _ _ _ _ => (((low : Int) - 2) + 401 - intOf s).toNat)
    case atStart => exact ⟨((low : Int) - 2), rfl, by omega, by omega, HS7.out⟩
    case round =>
      obtain ⟨z, rfl, z0, z1, hS⟩ := hrel
      obtain ⟨_, e0, e1⟩ := id hS
      have HS := Lib.hid hS
      clear hS
      by_cases hz1 : z ≤ (low : Int) + (n : Int) - 1 + 5
      · by_cases hz2 : z ≤ ((low : Int) - 2) + 400
        · have HA1 := Lib.hid (fun wx h => HAT.out wx h z (by omega) (by omega))
          have HA2 := Lib.hid (fun wx h => HRAT.out wx h z (by omega) (by omega))
          generalize atS low L z = sv at *
          generalize atB low L z = bv at *
          go_wp2_with fail
          refine (HRTOP.out _ HS.out).mono ?_
          rintro e w1 ⟨rfl, hS1⟩
          obtain ⟨_, e10, e11⟩ := id hS1
          have HS1 := Lib.hid hS1
          clear hS1
          go_wp2_with fail
          refine (HA1.out _ HS1.out).mono ?_
          rintro e w2 ⟨rfl, hS2⟩
          obtain ⟨_, e20, e21⟩ := id hS2
          have HS2 := Lib.hid hS2
          clear hS2
          go_wp2_with fail
          refine (HA2.out _ HS2.out).mono ?_
          rintro e w3 ⟨rfl, hS3⟩
          have HS3 := Lib.hid hS3
          clear hS3
          go_wp2_with fail
          go_roundw
          case rel => exact ⟨z + 1, by go_num, by omega, by omega, HS3.out⟩
          case measure => simp [intOf]; omega
        · have hz2' : decide (z ≤ ((low : Int) - 2) + 400) = false := decide_eq_false hz2
          have HA1 := Lib.hid (fun wx h => HAT.out wx h frm (by omega) (by omega))
          have HA2 := Lib.hid (fun wx h => HRAT.out wx h frm (by omega) (by omega))
          clear hz2
          go_wp2_with fail
          refine (HRTOP.out _ HS.out).mono ?_
          rintro e w1 ⟨rfl, hS1⟩
          obtain ⟨_, e10, e11⟩ := id hS1
          have HS1 := Lib.hid hS1
          clear hS1
          go_wp2_with fail
          refine (HA1.out _ HS1.out).mono ?_
          rintro e w2 ⟨rfl, hS2⟩
          obtain ⟨_, e20, e21⟩ := id hS2
          have HS2 := Lib.hid hS2
          clear hS2
          go_wp2_with fail
          refine (HA2.out _ HS2.out).mono ?_
          rintro e w3 ⟨rfl, hS3⟩
          have HS3 := Lib.hid hS3
          clear hS3
          go_wp2_with fail
          go_ret
          exact ⟨rfl, HU0.out.trans HS3.out.1 (fun _ _ h => h)⟩
      · have hz1' : decide (z ≤ (low : Int) + (n : Int) - 1 + 5) = false := decide_eq_false hz1
        have HA1 := Lib.hid (fun wx h => HAT.out wx h frm (by omega) (by omega))
        have HA2 := Lib.hid (fun wx h => HRAT.out wx h frm (by omega) (by omega))
        clear hz1
        go_wp2_with fail
        refine (HRTOP.out _ HS.out).mono ?_
        rintro e w1 ⟨rfl, hS1⟩
        obtain ⟨_, e10, e11⟩ := id hS1
        have HS1 := Lib.hid hS1
        clear hS1
        go_wp2_with fail
        refine (HA1.out _ HS1.out).mono ?_
        rintro e w2 ⟨rfl, hS2⟩
        obtain ⟨_, e20, e21⟩ := id hS2
        have HS2 := Lib.hid hS2
        clear hS2
        go_wp2_with fail
        refine (HA2.out _ HS2.out).mono ?_
        rintro e w3 ⟨rfl, hS3⟩
        have HS3 := Lib.hid hS3
        clear hS3
        go_wp2_with fail
        go_ret
        exact ⟨rfl, HU0.out.trans HS3.out.1 (fun _ _ h => h)⟩
  · go_wp2_with fail
    go_loopw [10, 11, 12, 13, 14] (fun s s1 s2 s3 s4 wr => ∃ z : Int, s = .int .u64 z ∧ 0 ≤ z ∧ z ≤ 401 ∧ AS w0 w.heap.size (.int .u64 (low : Int)) (.slice A n c) wr) (fun s _ _ _ _ _ => (401 - intOf s).toNat)
    case atStart => exact ⟨0, rfl, by omega, by omega, HS7.out⟩
    case round =>
      obtain ⟨z, rfl, z0, z1, hS⟩ := hrel
      obtain ⟨_, e0, e1⟩ := id hS
      have HS := Lib.hid hS
      clear hS
      by_cases hz1 : z ≤ (low : Int) + (n : Int) - 1 + 5
      · by_cases hz2 : z ≤ 400
        · have HA1 := Lib.hid (fun wx h => HAT.out wx h z (by omega) (by omega))
          have HA2 := Lib.hid (fun wx h => HRAT.out wx h z (by omega) (by omega))
          generalize atS low L z = sv at *
          generalize atB low L z = bv at *
          go_wp2_with fail
          refine (HRTOP.out _ HS.out).mono ?_
          rintro e w1 ⟨rfl, hS1⟩
          obtain ⟨_, e10, e11⟩ := id hS1
          have HS1 := Lib.hid hS1
          clear hS1
          go_wp2_with fail
          refine (HA1.out _ HS1.out).mono ?_
          rintro e w2 ⟨rfl, hS2⟩
          obtain ⟨_, e20, e21⟩ := id hS2
          have HS2 := Lib.hid hS2
          clear hS2
          go_wp2_with fail
          refine (HA2.out _ HS2.out).mono ?_
          rintro e w3 ⟨rfl, hS3⟩
          have HS3 := Lib.hid hS3
          clear hS3
          go_wp2_with fail
          go_roundw
          case rel => exact ⟨z + 1, by go_num, by omega, by omega, HS3.out⟩
          case measure => simp [intOf]; omega
        · have hz2' : decide (z ≤ 400) = false := decide_eq_false hz2
          have HA1 := Lib.hid (fun wx h => HAT.out wx h frm (by omega) (by omega))
          have HA2 := Lib.hid (fun wx h => HRAT.out wx h frm (by omega) (by omega))
          clear hz2
          go_wp2_with fail
          refine (HRTOP.out _ HS.out).mono ?_
          rintro e w1 ⟨rfl, hS1⟩
          obtain ⟨_, e10, e11⟩ := id hS1
          have HS1 := Lib.hid hS1
          clear hS1
          go_wp2_with fail
          refine (HA1.out _ HS1.out).mono ?_
          rintro e w2 ⟨rfl, hS2⟩
          obtain ⟨_, e20, e21⟩ := id hS2
          have HS2 := Lib.hid hS2
          clear hS2
          go_wp2_with fail
          refine (HA2.out _ HS2.out).mono ?_
          rintro e w3 ⟨rfl, hS3⟩
          have HS3 := Lib.hid hS3
          clear hS3
          go_wp2_with fail
          go_ret
          exact ⟨rfl, HU0.out.trans HS3.out.1 (fun _ _ h => h)⟩
      · have hz1' : decide (z ≤ (low : Int) + (n : Int) - 1 + 5) = false := decide_eq_false hz1
        have HA1 := Lib.hid (fun wx h => HAT.out wx h frm (by omega) (by omega))
        have HA2 := Lib.hid (fun wx h => HRAT.out wx h frm (by omega) (by omega))
        clear hz1
        go_wp2_with fail
        refine (HRTOP.out _ HS.out).mono ?_
        rintro e w1 ⟨rfl, hS1⟩
        obtain ⟨_, e10, e11⟩ := id hS1
        have HS1 := Lib.hid hS1
        clear hS1
        go_wp2_with fail
        refine (HA1.out _ HS1.out).mono ?_
        rintro e w2 ⟨rfl, hS2⟩
        obtain ⟨_, e20, e21⟩ := id hS2
        have HS2 := Lib.hid hS2
        clear hS2
        go_wp2_with fail
        refine (HA2.out _ HS2.out).mono ?_
        rintro e w3 ⟨rfl, hS3⟩
        have HS3 := Lib.hid hS3
        clear hS3
        go_wp2_with fail
        go_ret
        exact ⟨rfl, HU0.out.trans HS3.out.1 (fun _ _ h => h)⟩
end Go.Proofs.Ytkcehpnppfmfnaa
