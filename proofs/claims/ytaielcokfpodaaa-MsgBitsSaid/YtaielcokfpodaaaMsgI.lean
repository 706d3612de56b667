/-
  Layer 18, messages: are two lists alike. Conditions: lists of at most 10^6, bytes.
-/
import Derived.Test.YtaielcokfpodaaaMsgH
import Derived.Deep.QuietTactic
import Derived.BigQuiet
namespace Go.Proofs.Ytaielcokfpodaaa
open Go.RowKit

theorem strTest {a b : List Int} (ha : Byt a) (hb : Byt b) (h : a ≠ b) : ((strOfNums a).toList == (strOfNums b).toList) = false := by
  rw [strOf_eq ha hb]
  exact decide_eq_false h
theorem take_eq_succ {α : Type} {A B : List α} {k : Nat} (ha : k < A.length) (hb : k < B.length) (h : A.take k = B.take k) (he : A[k] = B[k]) : A.take (k + 1) = B.take (k + 1) := by
  rw [List.take_succ_eq_append_getElem ha, List.take_succ_eq_append_getElem hb, h, he]
theorem ne_of_at {α : Type} {A B : List α} {k : Nat} (ha : k < A.length) (hb : k < B.length) (he : A[k] ≠ B[k]) : A ≠ B := fun h => by
  subst h
  exact he rfl

set_option maxHeartbeats 4000000 in
theorem it_eq {w : World} {G1 G2 : Nat → Prop} {v1 v2 : Value} {A B : List It} (h1 : Sl w G1 2 v1 A.length (A.flatMap itCells)) (h2 : Sl w G2 2 v2 B.length (B.flatMap itCells)) (hl : A.length ≤ 1000000 ∧ B.length ≤ 1000000) (hA : ∀ x ∈ A, WfI x) (hB : ∀ x ∈ B, WfI x) :
    Calls Try.prog 40 #[v1, v2] w fun e w' => e = .returned (.bool (decide (A = B))) ∧ Upd (fun _ => False) w w' := by
  obtain ⟨a1, c1, rfl, _, _⟩ := h1.shape
  obtain ⟨a2, c2, rfl, _, _⟩ := h2.shape
  have HA := Lib.hid hA
  have HB := Lib.hid hB
  have H1 := Lib.hid h1
  have H2 := Lib.hid h2
  obtain ⟨R, hR⟩ : ∃ R, decide (A = B) = R := ⟨_, rfl⟩
  have HR := Lib.hid hR
  rw [hR]
  obtain ⟨N, hN⟩ : ∃ N, A.length = N := ⟨_, rfl⟩
  obtain ⟨M, hM⟩ : ∃ M, B.length = M := ⟨_, rfl⟩
  have HN := Lib.hid hN
  have HM := Lib.hid hM
  rw [hN] at H1 hl ⊢
  rw [hM] at H2 hl ⊢
  obtain ⟨hl1, hl2⟩ := hl
  clear h1 h2 hA hB hR hN hM
  by_cases hnm : N = M
  case neg =>
    have hRf : R = false := by
      rw [← HR.out]
      refine decide_eq_false fun h => hnm ?_
      rw [← HN.out, ← HM.out, h]
    subst hRf
    have hd : ((N : Int) != (M : Int)) = true := bne_iff_ne.2 (by omega)
    have hn1 : (N : Int) ≤ 1000000 := by omega
    have hn2 : (M : Int) ≤ 1000000 := by omega
    clear hnm
    go_enter Try.func40, Try.ntmps40
    go_wp2_with fail
    go_ret
    exact ⟨rfl, Upd.refl _ _⟩
  subst hnm
  have hn1 : (N : Int) ≤ 1000000 := by omega
  go_enter Try.func40, Try.ntmps40
  go_wp2_with fail
  go_loopw [13] (fun i wr => ∃ k : Nat, k ≤ N ∧ i = .int .i64 k ∧ A.take k = B.take k ∧ Upd (fun _ => False) w wr) (fun i _ => N - (intOf i).toNat)
  case atStart => exact ⟨0, Nat.zero_le _, rfl, by simp, Upd.refl _ _⟩
  case round =>
    obtain ⟨k, hk, rfl, ht, hu⟩ := hrel
    have HT := Lib.hid ht
    have HU := Lib.hid hu
    clear ht
    by_cases hlt : k < N
    · have hka : k < A.length := by rw [HN.out]; exact hlt
      have hkb : k < B.length := by rw [HM.out]; exact hlt
      obtain ⟨b1, o1, rfl, hc1⟩ := H1.out.row_ hu (fun _ _ h => h) hlt (it_at A k hka) rfl
      obtain ⟨b2, o2, rfl, hc2⟩ := H2.out.row_ hu (fun _ _ h => h) hlt (it_at B k hkb) rfl
      have hwa := HA.out A[k] (List.getElem_mem hka)
      have hwb := HB.out B[k] (List.getElem_mem hkb)
      have hne := fun (h : A[k] ≠ B[k]) => ne_of_at hka hkb h
      have heq := fun (h : A[k] = B[k]) => take_eq_succ hka hkb HT.out h
      generalize A[k] = x at *
      generalize B[k] = y at *
      obtain ⟨x0, x1⟩ := x
      obtain ⟨y0, y1⟩ := y
      have ex0 : wr.cell? ⟨b1, o1 + k * 2, none⟩ = some (.int .u64 x0) := hc1 0 _ rfl
      have ex1 : wr.cell? ⟨b1, o1 + k * 2 + 1, none⟩ = some (.string (strOfNums x1)) := hc1 1 _ rfl
      have ey0 : wr.cell? ⟨b2, o2 + k * 2, none⟩ = some (.int .u64 y0) := hc2 0 _ rfl
      have ey1 : wr.cell? ⟨b2, o2 + k * 2 + 1, none⟩ = some (.string (strOfNums y1)) := hc2 1 _ rfl
      have HNE := Lib.hid hne
      have HEQ := Lib.hid heq
      have HWA := Lib.hid hwa
      have HWB := Lib.hid hwb
      clear hc1 hc2 hne heq hwa hwb hu
      by_cases d0 : x0 = y0
      case neg =>
        have hRf : R = false := by rw [← HR.out]; exact decide_eq_false (HNE.out (by simp [d0]))
        subst hRf
        have q0 : (x0 == y0) = false := beq_eq_false_iff_ne.2 d0
        clear d0
        go_wp2_with fail
        go_quiet (fail)
        go_wp2_with fail
        go_ret
        exact ⟨rfl, HU.out.drewN _⟩
      subst d0
      by_cases d1 : x1 = y1
      case neg =>
        have hRf : R = false := by rw [← HR.out]; exact decide_eq_false (HNE.out (by simp [d1]))
        subst hRf
        have q1 := strTest HWA.out.val.1 HWB.out.val.1 d1
        dsimp only at q1
        have p1 : ((strOfNums x1).toList != (strOfNums y1).toList) = true := by rw [bne, q1]; rfl
        clear d1
        go_wp2_with fail
        go_quiet (fail)
        go_wp2_with fail
        go_ret
        exact ⟨rfl, HU.out.drewN _⟩
      subst d1
      have HTK := Lib.hid (HEQ.out rfl)
      go_wp2_with fail
      go_quiet (fail)
      go_wp2_with fail
      go_roundw
      case rel => exact ⟨k + 1, by omega, by go_num, HTK.out, HU.out.drewN _⟩
      case measure => simp [intOf]; omega
    · have hke : k = N := by omega
      subst hke
      have hRt : R = true := by
        rw [← HR.out]
        have := HT.out
        rw [List.take_of_length_le (by rw [HN.out]; exact Nat.le_refl _), List.take_of_length_le (by rw [HM.out]; exact Nat.le_refl _)] at this
        exact decide_eq_true this
      subst hRt
      clear hu
      go_wp2_with fail
      go_ret
      exact ⟨rfl, HU.out⟩

set_option maxHeartbeats 4000000 in
theorem vo_eq {w : World} {G1 G2 : Nat → Prop} {v1 v2 : Value} {A B : List Vt} (h1 : Sl w G1 4 v1 A.length (A.flatMap vtCells)) (h2 : Sl w G2 4 v2 B.length (B.flatMap vtCells)) (hl : A.length ≤ 1000000 ∧ B.length ≤ 1000000) (hA : ∀ x ∈ A, WfV x) (hB : ∀ x ∈ B, WfV x) :
    Calls Try.prog 39 #[v1, v2] w fun e w' => e = .returned (.bool (decide (A = B))) ∧ Upd (fun _ => False) w w' := by
  obtain ⟨a1, c1, rfl, _, _⟩ := h1.shape
  obtain ⟨a2, c2, rfl, _, _⟩ := h2.shape
  have HA := Lib.hid hA
  have HB := Lib.hid hB
  have H1 := Lib.hid h1
  have H2 := Lib.hid h2
  obtain ⟨R, hR⟩ : ∃ R, decide (A = B) = R := ⟨_, rfl⟩
  have HR := Lib.hid hR
  rw [hR]
  obtain ⟨N, hN⟩ : ∃ N, A.length = N := ⟨_, rfl⟩
  obtain ⟨M, hM⟩ : ∃ M, B.length = M := ⟨_, rfl⟩
  have HN := Lib.hid hN
  have HM := Lib.hid hM
  rw [hN] at H1 hl ⊢
  rw [hM] at H2 hl ⊢
  obtain ⟨hl1, hl2⟩ := hl
  clear h1 h2 hA hB hR hN hM
  by_cases hnm : N = M
  case neg =>
    have hRf : R = false := by
      rw [← HR.out]
      refine decide_eq_false fun h => hnm ?_
      rw [← HN.out, ← HM.out, h]
    subst hRf
    have hd : ((N : Int) != (M : Int)) = true := bne_iff_ne.2 (by omega)
    have hn1 : (N : Int) ≤ 1000000 := by omega
    have hn2 : (M : Int) ≤ 1000000 := by omega
    clear hnm
    go_enter Try.func39, Try.ntmps39
    go_wp2_with fail
    go_ret
    exact ⟨rfl, Upd.refl _ _⟩
  subst hnm
  have hn1 : (N : Int) ≤ 1000000 := by omega
  go_enter Try.func39, Try.ntmps39
  go_wp2_with fail
  go_loopw [13] (fun i wr => ∃ k : Nat, k ≤ N ∧ i = .int .i64 k ∧ A.take k = B.take k ∧ Upd (fun _ => False) w wr) (fun i _ => N - (intOf i).toNat)
  case atStart => exact ⟨0, Nat.zero_le _, rfl, by simp, Upd.refl _ _⟩
  case round =>
    obtain ⟨k, hk, rfl, ht, hu⟩ := hrel
    have HT := Lib.hid ht
    have HU := Lib.hid hu
    clear ht
    by_cases hlt : k < N
    · have hka : k < A.length := by rw [HN.out]; exact hlt
      have hkb : k < B.length := by rw [HM.out]; exact hlt
      obtain ⟨b1, o1, rfl, hc1⟩ := H1.out.row_ hu (fun _ _ h => h) hlt (vt_at A k hka) rfl
      obtain ⟨b2, o2, rfl, hc2⟩ := H2.out.row_ hu (fun _ _ h => h) hlt (vt_at B k hkb) rfl
      have hwa := HA.out A[k] (List.getElem_mem hka)
      have hwb := HB.out B[k] (List.getElem_mem hkb)
      have hne := fun (h : A[k] ≠ B[k]) => ne_of_at hka hkb h
      have heq := fun (h : A[k] = B[k]) => take_eq_succ hka hkb HT.out h
      generalize A[k] = x at *
      generalize B[k] = y at *
      obtain ⟨x0, x1, x2, x3⟩ := x
      obtain ⟨y0, y1, y2, y3⟩ := y
      have ex0 : wr.cell? ⟨b1, o1 + k * 4, none⟩ = some (.int .u64 x0) := hc1 0 _ rfl
      have ex1 : wr.cell? ⟨b1, o1 + k * 4 + 1, none⟩ = some (.int .u64 x1) := hc1 1 _ rfl
      have ex2 : wr.cell? ⟨b1, o1 + k * 4 + 2, none⟩ = some (.int .u8 x2) := hc1 2 _ rfl
      have ex3 : wr.cell? ⟨b1, o1 + k * 4 + 3, none⟩ = some (.string (strOfNums x3)) := hc1 3 _ rfl
      have ey0 : wr.cell? ⟨b2, o2 + k * 4, none⟩ = some (.int .u64 y0) := hc2 0 _ rfl
      have ey1 : wr.cell? ⟨b2, o2 + k * 4 + 1, none⟩ = some (.int .u64 y1) := hc2 1 _ rfl
      have ey2 : wr.cell? ⟨b2, o2 + k * 4 + 2, none⟩ = some (.int .u8 y2) := hc2 2 _ rfl
      have ey3 : wr.cell? ⟨b2, o2 + k * 4 + 3, none⟩ = some (.string (strOfNums y3)) := hc2 3 _ rfl
      have HNE := Lib.hid hne
      have HEQ := Lib.hid heq
      have HWA := Lib.hid hwa
      have HWB := Lib.hid hwb
      clear hc1 hc2 hne heq hwa hwb hu
      by_cases d0 : x0 = y0
      case neg =>
        have hRf : R = false := by rw [← HR.out]; exact decide_eq_false (HNE.out (by simp [d0]))
        subst hRf
        have q0 : (x0 == y0) = false := beq_eq_false_iff_ne.2 d0
        clear d0
        go_wp2_with fail
        go_quiet (fail)
        go_wp2_with fail
        go_ret
        exact ⟨rfl, HU.out.drewN _⟩
      subst d0
      by_cases d1 : x1 = y1
      case neg =>
        have hRf : R = false := by rw [← HR.out]; exact decide_eq_false (HNE.out (by simp [d1]))
        subst hRf
        have q1 : (x1 == y1) = false := beq_eq_false_iff_ne.2 d1
        clear d1
        go_wp2_with fail
        go_quiet (fail)
        go_wp2_with fail
        go_ret
        exact ⟨rfl, HU.out.drewN _⟩
      subst d1
      by_cases d2 : x2 = y2
      case neg =>
        have hRf : R = false := by rw [← HR.out]; exact decide_eq_false (HNE.out (by simp [d2]))
        subst hRf
        have q2 : (x2 == y2) = false := beq_eq_false_iff_ne.2 d2
        clear d2
        go_wp2_with fail
        go_quiet (fail)
        go_wp2_with fail
        go_ret
        exact ⟨rfl, HU.out.drewN _⟩
      subst d2
      by_cases d3 : x3 = y3
      case neg =>
        have hRf : R = false := by rw [← HR.out]; exact decide_eq_false (HNE.out (by simp [d3]))
        subst hRf
        have q3 := strTest HWA.out.val.1 HWB.out.val.1 d3
        dsimp only at q3
        have p3 : ((strOfNums x3).toList != (strOfNums y3).toList) = true := by rw [bne, q3]; rfl
        clear d3
        go_wp2_with fail
        go_quiet (fail)
        go_wp2_with fail
        go_ret
        exact ⟨rfl, HU.out.drewN _⟩
      subst d3
      have HTK := Lib.hid (HEQ.out rfl)
      go_wp2_with fail
      go_quiet (fail)
      go_wp2_with fail
      go_roundw
      case rel => exact ⟨k + 1, by omega, by go_num, HTK.out, HU.out.drewN _⟩
      case measure => simp [intOf]; omega
    · have hke : k = N := by omega
      subst hke
      have hRt : R = true := by
        rw [← HR.out]
        have := HT.out
        rw [List.take_of_length_le (by rw [HN.out]; exact Nat.le_refl _), List.take_of_length_le (by rw [HM.out]; exact Nat.le_refl _)] at this
        exact decide_eq_true this
      subst hRt
      clear hu
      go_wp2_with fail
      go_ret
      exact ⟨rfl, HU.out⟩

end Go.Proofs.Ytaielcokfpodaaa
