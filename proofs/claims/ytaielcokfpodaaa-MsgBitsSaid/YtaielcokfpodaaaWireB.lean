/-
  Layer 1, the reader's calls with bounds. Conditions: what is left is bytes, at most 10^12 of them.
-/
import Derived.Test.YtaielcokfpodaaaWireA
import Derived.Deep.RegionHeld3
import Derived.Deep.RegionWith
namespace Go.Proofs.Ytaielcokfpodaaa
open Go.RowKit

def pBelowV (n most : Int) (s : Rs) : Int × Rs := if s.2 ≠ 0 then (0, s) else if most < n then (0, ([], 4)) else (n, s)
def pBelow (m : Int) (s : Rs) : Int × Rs := pBelowV (pNum s).1 (m - 1) (pNum s).2
def pStr (most : Int) (s : Rs) : List Int × Rs := pTake (pBelowV (pNum s).1 most (pNum s).2).1.toNat (pBelowV (pNum s).1 most (pNum s).2).2
def pBad (s : Rs) : Rs := if s.2 = 0 then ([], 4) else s
def pEnd (s : Rs) : Rs := if s.1 = [] then s else ([], 4)

theorem RdOk.tail {s : Rs} (h : RdOk s) (c : Int) (c0 : 0 ≤ c) (c1 : c ≤ 255) : RdOk (pTail c s).2 ∧ 0 ≤ (pTail c s).1 ∧ (pTail c s).1 < 18446744073709551616 := by
  unfold pTail
  split
  · exact ⟨h, by simpa using c0, by simp; omega⟩
  · obtain ⟨h1, h2⟩ := h.take (c - 247).toNat
    have hle := pTake_le (c - 247).toNat s
    dsimp only
    split
    · exact ⟨⟨Byt.nil, by simp⟩, by simp, by simp⟩
    · have hu := undig_bd _ h2
      have h8 : (pTake (c - 247).toNat s).1.length ≤ 8 := by omega
      have e := pow256 (pTake (c - 247).toNat s).1.length
      have h3 : 256 ^ (pTake (c - 247).toNat s).1.length ≤ 256 ^ 8 := Nat.pow_le_pow_right (by omega) h8
      have h4 : (256 : Nat) ^ 8 = 18446744073709551616 := by decide
      rw [h4] at h3
      exact ⟨h1, hu.1, by have := hu.2; omega⟩
theorem RdOk.num {s : Rs} (h : RdOk s) : RdOk (pNum s).2 ∧ 0 ≤ (pNum s).1 ∧ (pNum s).1 < 18446744073709551616 := by
  obtain ⟨h1, c0, c1⟩ := h.byte
  exact h1.tail _ c0 c1
theorem RdOk.below {s : Rs} (h : RdOk s) (n most : Int) (n0 : 0 ≤ n) (m0 : 0 ≤ most) : RdOk (pBelowV n most s).2 ∧ 0 ≤ (pBelowV n most s).1 ∧ (pBelowV n most s).1 ≤ most ∧ ((pBelowV n most s).1 = 0 ∨ (pBelowV n most s).1 = n) := by
  unfold pBelowV
  split
  · exact ⟨h, by simp, m0, .inl rfl⟩
  · split
    · exact ⟨⟨Byt.nil, by simp⟩, by simp, m0, .inl rfl⟩
    · exact ⟨h, n0, by simp; omega, .inr rfl⟩

theorem wbelow_any {w : World} {b : Nat} {s : Rs} (h : Rd w b s) (n most : Int) :
    Calls Try.prog 101 #[.pointer (some ⟨b, 0, none⟩), .int .u64 n, .int .u64 most] w fun e' w' => e' = .returned (.int .u64 (pBelowV n most s).1) ∧ RdTo w b (pBelowV n most s).2 w' := by
  have c1 : w.cell? ⟨b, 1, none⟩ = some (.int .i64 s.2) := Blk.cell h 1
  have HR := Lib.hid h
  have HF := Lib.hid (wfail_any h 4)
  clear h
  obtain ⟨l, e⟩ := s
  unfold pBelowV
  simp only at c1 ⊢
  by_cases he : e = 0
  · subst he
    rw [if_neg (by simp)]
    by_cases hm : most < n
    · rw [if_pos hm]
      go_enter Try.func101, Try.ntmps101
      go_wp2_with fail
      refine HF.out.mono ?_
      rintro e w3 ⟨⟨v, rfl⟩, hto⟩
      have c2 : w3.cell? ⟨b, 1, none⟩ = some (.int .i64 4) := Blk.cell hto.2 1
      have HTO := Lib.hid hto
      clear hto
      go_wp2_with fail
      go_ret
      exact ⟨rfl, HTO.out⟩
    · rw [if_neg hm]
      have hm' : decide (most < n) = false := decide_eq_false hm
      clear hm
      go_enter Try.func101, Try.ntmps101
      go_wp2_with fail
      go_ret
      exact ⟨rfl, HR.out.to⟩
  · rw [if_pos he]
    have he' : (e == 0) = false := beq_eq_false_iff_ne.2 he
    have he2 : (e != 0) = true := bne_iff_ne.2 he
    clear he
    go_enter Try.func101, Try.ntmps101
    go_wp2_with fail
    go_ret
    exact ⟨rfl, HR.out.to⟩

theorem wrbelow_any {w : World} {b : Nat} {s : Rs} (h : Rd w b s) (hs : RdOk s) (m : Int) (m0 : 0 < m) (m1 : m < 18446744073709551616) :
    Calls Try.prog 50 #[.pointer (some ⟨b, 0, none⟩), .int .u64 m] w fun e' w' => e' = .returned (.int .u64 (pBelow m s).1) ∧ RdTo w b (pBelow m s).2 w' := by
  have HN := Lib.hid (wrnum_any h hs)
  obtain ⟨n1, n2, n3⟩ := hs.num
  unfold pBelow
  generalize pNum s = r at *
  obtain ⟨x, t⟩ := r
  simp only at HN n1 n2 n3 ⊢
  have HB := Lib.hid (fun wx (hx : Rd wx b t) => wbelow_any hx x (m - 1))
  have hm0 : (m == 0) = false := beq_eq_false_iff_ne.2 (by omega)
  clear h hs
  generalize pBelowV x (m - 1) t = q at *
  go_enter Try.func50, Try.ntmps50
  go_wp2_with fail
  refine HN.out.mono ?_
  rintro e w1 ⟨rfl, hto⟩
  have HTO := Lib.hid hto
  clear hto
  go_wp2_with fail
  refine (HB.out _ HTO.out.2).mono ?_
  rintro e w2 ⟨rfl, hto⟩
  have HTO2 := Lib.hid (HTO.out.trans hto)
  clear hto
  go_wp2_with fail
  go_ret
  exact ⟨rfl, HTO2.out⟩

theorem wbad_any {w : World} {b : Nat} {s : Rs} (h : Rd w b s) :
    Calls Try.prog 98 #[.pointer (some ⟨b, 0, none⟩)] w fun e' w' => (∃ v, e' = .returned v) ∧ RdTo w b (pBad s) w' := by
  have HE := Lib.hid (werr_any h)
  have HR := Lib.hid h
  have HF := Lib.hid (wfail_any h 4)
  clear h
  obtain ⟨l, e⟩ := s
  unfold pBad
  simp only at HE ⊢
  by_cases he : e = 0
  · subst he
    rw [if_pos rfl]
    go_enter Try.func98, Try.ntmps98
    go_wp2_with fail
    refine HE.out.mono ?_
    rintro e w' ⟨rfl, rfl⟩
    go_wp2_with fail
    refine HF.out.mono ?_
    rintro e w3 ⟨⟨v, rfl⟩, hto⟩
    have HTO := Lib.hid hto
    clear hto
    go_wp2_with fail
    go_end0
    exact ⟨⟨_, rfl⟩, HTO.out⟩
  · rw [if_neg he]
    have he' : (e == 0) = false := beq_eq_false_iff_ne.2 he
    clear he
    go_enter Try.func98, Try.ntmps98
    go_wp2_with fail
    refine HE.out.mono ?_
    rintro e w' ⟨rfl, rfl⟩
    go_wp2_with fail
    go_end0
    exact ⟨⟨_, rfl⟩, HR.out.to⟩

theorem wend_any {w : World} {b : Nat} {s : Rs} (h : Rd w b s) (hs : RdOk s) :
    Calls Try.prog 18 #[.pointer (some ⟨b, 0, none⟩)] w fun e' w' => e' = .returned (.int .i64 (pEnd s).2) ∧ RdTo w b (pEnd s) w' := by
  have HL := Lib.hid (wleft_any h hs)
  have HE := Lib.hid (fun (wx : World) (t : Rs) (hx : Rd wx b t) => werr_any hx)
  have HR := Lib.hid h
  have HF := Lib.hid (wfail_any h 4)
  have hl := hs.2
  clear h hs
  obtain ⟨l, e⟩ := s
  unfold pEnd
  simp only at HL hl ⊢
  rcases l with _ | ⟨x, l⟩
  · rw [if_pos rfl]
    go_enter Try.func18, Try.ntmps18
    go_wp2_with fail
    refine HL.out.mono ?_
    rintro e w' ⟨rfl, rfl⟩
    go_wp2_with fail
    refine (HE.out _ _ HR.out).mono ?_
    rintro e w' ⟨rfl, rfl⟩
    go_wp2_with fail
    go_ret
    exact ⟨rfl, HR.out.to⟩
  · rw [if_neg (by simp)]
    have hp : (0 : Int) < ((x :: l).length : Int) := by rw [List.length_cons]; omega
    go_enter Try.func18, Try.ntmps18
    go_wp2_with fail
    refine HL.out.mono ?_
    rintro e w' ⟨rfl, rfl⟩
    go_wp2_with fail
    refine HF.out.mono ?_
    rintro e w3 ⟨⟨v, rfl⟩, hto⟩
    have HTO := Lib.hid hto
    clear hto
    go_wp2_with fail
    refine (HE.out _ _ HTO.out.2).mono ?_
    rintro e w' ⟨rfl, rfl⟩
    go_wp2_with fail
    go_ret
    exact ⟨rfl, HTO.out⟩

theorem wof_any (l : List Int) (w : World) :
    Calls Try.prog 16 #[.string (strOfNums l)] w fun e' w' => ∃ b, e' = .returned (.pointer (some ⟨b, 0, none⟩)) ∧ w.heap.size ≤ b ∧ Upd (fun _ => False) w w' ∧ Rd w' b (l, 0) := by
  go_enter Try.func16, Try.ntmps16
  go_wp2_with fail
  go_ret
  exact ⟨w.heap.size, rfl, Nat.le_refl _, (Upd.refl _ _).alloc _, Blk.new _ _ _⟩

set_option maxRecDepth 100000 in
set_option maxHeartbeats 2000000 in
theorem wrstr_any {w : World} {b : Nat} {s : Rs} (h : Rd w b s) (hs : RdOk s) (most : Int) (m0 : 0 ≤ most) (m1 : most < 9223372036854775808) :
    Calls Try.prog 56 #[.pointer (some ⟨b, 0, none⟩), .int .i64 most] w fun e' w' => e' = .returned (.string (strOfNums (pStr most s).1)) ∧ RdTo w b (pStr most s).2 w' := by
  have HN := Lib.hid (wrnum_any h hs)
  obtain ⟨n1, n2, n3⟩ := hs.num
  unfold pStr
  generalize pNum s = r at *
  obtain ⟨x, t⟩ := r
  simp only at HN n1 n2 n3 ⊢
  have HB := Lib.hid (fun wx (hx : Rd wx b t) => wbelow_any hx x most)
  obtain ⟨q1, q2, q3, q4⟩ := n1.below x most n2 m0
  have HT := Lib.hid (fun (wx : World) (u : Rs) (hx : Rd wx b u) (hu : RdOk u) (n : Nat) => wtake_any hx hu n)
  clear h hs
  generalize pBelowV x most t = q at *
  obtain ⟨y, u⟩ := q
  simp only at HB q1 q2 q3 q4 ⊢
  obtain ⟨k, rfl⟩ : ∃ k : Nat, y = (k : Int) := ⟨y.toNat, by omega⟩
  rw [Int.toNat_natCast]
  have hT := fun wx hx => HT.out wx u hx q1 k (by omega)
  have HT2 := Lib.hid hT
  have hif : (if most < 0 then (0 : Int) else most) = most := if_neg (by omega)
  have hwm : IntKind.u64.wrap most = most := IntWalk.u64_in _ ⟨by omega, by omega⟩
  clear hT HT q4
  generalize pTake k u = o at *
  go_enter Try.func56, Try.ntmps56
  go_wp2_with fail
  refine HN.out.mono ?_
  rintro e w1 ⟨rfl, hto⟩
  have HTO := Lib.hid hto
  clear hto
  go_wp2_with fail
  go_region_with (first
    | (go_at_call 101; refine (HB.out _ HTO.out.2.drew).mono ?_; rintro e w2 ⟨rfl, hto⟩; have HTO2 := Lib.hid (HTO.out.trans ⟨(Upd.refl _ _).drew.trans hto.1 (fun _ _ h => h), hto.2⟩); clear hto)
    | (go_at_call 37; refine (HT2.out _ HTO2.out.2).mono ?_; rintro e w3 ⟨rfl, hto⟩; have HTO3 := Lib.hid (HTO2.out.trans hto); clear hto))
  all_goals
    go_wp2_with fail
    go_ret
    exact ⟨rfl, HTO3.out⟩
end Go.Proofs.Ytaielcokfpodaaa
