/-
  Plain law: what the package's Span gathers is what the reference's Span gathers. Conditions: none beside the directories' bounds.
-/
import Derived.Test.YtkcehpnppfmfnaaRefE
import Derived.Test.YtkcehpnppfmfnaaChainD
namespace Go.Proofs.Ytkcehpnppfmfnaa
open Go.RowKit

theorem mem_listK (s : Int) (j : Nat) : ∀ n, (j : Int) ∈ listK s n ↔ j < n ∧ s / 2 ^ j % 2 = 1
  | 0 => by simp [listK]
  | n + 1 => by
    have ih := mem_listK s j n
    simp only [listK, List.mem_append, ih]
    constructor
    · rintro (⟨h1, h2⟩ | h)
      · exact ⟨by omega, h2⟩
      · split at h
        · simp at h
          have : j = n := by omega
          subst this
          exact ⟨by omega, by assumption⟩
        · simp at h
    · rintro ⟨h1, h2⟩
      by_cases hj : j < n
      · exact .inl ⟨hj, h2⟩
      · have : j = n := by omega
        subst this
        rw [if_pos h2]
        exact .inr (by simp)

theorem setK_congr {m m' : List Int} : ∀ n, (∀ j : Nat, j < n → ((j : Int) ∈ m ↔ (j : Int) ∈ m')) → setK m n = setK m' n
  | 0, _ => rfl
  | n + 1, h => by
    simp only [setK]
    rw [setK_congr n (fun j hj => h j (by omega))]
    by_cases hm : (n : Int) ∈ m
    · rw [if_pos hm, if_pos ((h n (by omega)).1 hm)]
    · rw [if_neg hm, if_neg (fun h' => hm ((h n (by omega)).2 h'))]

theorem setK_bit (m : List Int) (j : Nat) : ∀ n, j < n → (setK m n / 2 ^ j % 2 = 1 ↔ (j : Int) ∈ m)
  | 0, h => absurd h (by omega)
  | n + 1, h => by
    have hp : (0 : Int) < 2 ^ j := Int.pow_pos (by omega)
    obtain ⟨b0, b1⟩ := setK_bd m n
    simp only [setK]
    by_cases hj : j < n
    · obtain ⟨d, rfl⟩ : ∃ d, n = j + 1 + d := ⟨n - (j + 1), by omega⟩
      have ih := setK_bit m j (j + 1 + d) hj
      have e : (if ((j + 1 + d : Nat) : Int) ∈ m then (2 : Int) ^ (j + 1 + d) else 0) = 2 ^ j * (2 * (if ((j + 1 + d : Nat) : Int) ∈ m then 2 ^ d else 0)) := by
        split
        · rw [Int.pow_add, Int.pow_succ, Int.mul_assoc]
        · simp
      rw [e, Int.add_mul_ediv_left _ _ (by omega), ← ih]
      generalize setK m (j + 1 + d) / 2 ^ j = q
      generalize (if ((j + 1 + d : Nat) : Int) ∈ m then (2 : Int) ^ d else 0) = r
      omega
    · have : j = n := by omega
      subst this
      by_cases hm : (j : Int) ∈ m
      · rw [if_pos hm]
        have : (setK m j + 2 ^ j) / 2 ^ j = 1 := by
          rw [show setK m j + 2 ^ j = setK m j + 2 ^ j * 1 by omega, Int.add_mul_ediv_left _ _ (by omega), Int.ediv_eq_zero_of_lt b0 (by omega)]
          rfl
        rw [this]
        simp [hm]
      · rw [if_neg hm, Int.add_zero, Int.ediv_eq_zero_of_lt b0 (by omega)]
        simp [hm]

theorem step_fin : ∀ a x : Fin 128, bits .and .u8 (bits .or .u8 (a.val : Int) (x.val : Int)) 127 = setK (listK (a.val : Int) 7 ++ listK (x.val : Int) 7) 7 := by decide +kernel
theorem fin128 {s : Int} (h0 : 0 ≤ s) (h1 : s ≤ 127) : ∃ t : Fin 128, s = (t.val : Int) := ⟨⟨s.toNat, by omega⟩, by simp; omega⟩
theorem step_set {a x : Int} (a0 : 0 ≤ a) (a1 : a ≤ 127) (x0 : 0 ≤ x) (x1 : x ≤ 127) : bits .and .u8 (bits .or .u8 a x) 127 = setK (listK a 7 ++ listK x 7) 7 := by
  obtain ⟨t, rfl⟩ := fin128 a0 a1
  obtain ⟨u, rfl⟩ := fin128 x0 x1
  exact step_fin t u

theorem spanF_snoc (l : List Int) (x : Int) : spanF (l ++ [x]) = bits .and .u8 (bits .or .u8 (spanF l) x) 127 := by simp [spanF]

/-- The set of all that these sets hold. -/
theorem spanF_set (l : List Int) (h : ∀ x ∈ l, 0 ≤ x ∧ x ≤ 127) : spanF l = setK (l.flatMap fun x => listK x 7) 7 := by
  obtain ⟨r, hr⟩ : ∃ r, r = l.reverse := ⟨_, rfl⟩
  have hl : l = r.reverse := by rw [hr, List.reverse_reverse]
  subst hl
  clear hr
  induction r with
  | nil => rfl
  | cons x r ih =>
    rw [List.reverse_cons] at h ⊢
    have hx := h x (by simp)
    rw [spanF_snoc, ih (fun y hy => h y (by simp only [List.mem_append]; exact .inl hy))]
    obtain ⟨b0, b1⟩ := setK_bd (r.reverse.flatMap fun x => listK x 7) 7
    rw [step_set b0 (by simpa using b1) hx.1 hx.2, List.flatMap_append]
    refine setK_congr 7 fun j hj => ?_
    rw [List.mem_append, List.mem_append, mem_listK, setK_bit _ _ _ hj]
    simp [hj]

theorem mem_gath (low : Nat) (L : List Int) (frm to y : Int) : ∀ n, y ∈ gath low L frm to n ↔ ∃ i : Nat, i < n ∧ atB low L ((low : Int) + (i : Int) + 1) = true ∧ frm ≤ (low : Int) + (i : Int) + 1 ∧ (low : Int) + (i : Int) + 1 ≤ to ∧ y ∈ listK (atS low L ((low : Int) + (i : Int) + 1)) 7
  | 0 => by simp [gath]
  | n + 1 => by
    simp only [gath, List.mem_append, mem_gath low L frm to y n]
    constructor
    · rintro (⟨i, hi, h⟩ | h)
      · exact ⟨i, by omega, h⟩
      · split at h
        · rename_i hc
          exact ⟨n, by omega, hc.1, hc.2.1, hc.2.2, h⟩
        · simp at h
    · rintro ⟨i, hi, h1, h2, h3, h4⟩
      by_cases hin : i < n
      · exact .inl ⟨i, hin, h1, h2, h3, h4⟩
      · have : i = n := by omega
        subst this
        rw [if_pos ⟨h1, h2, h3⟩]
        exact .inr h4

theorem mem_knL (low : Nat) (L : List Int) (frm to y : Int) : y ∈ knL low L frm to ↔ ∃ s : Nat, knLo low frm ≤ s ∧ s ≤ knHi low L to ∧ y = atS low L (s : Int) := by
  unfold knL
  simp only [List.mem_map, List.mem_range]
  constructor
  · rintro ⟨i, hi, rfl⟩
    exact ⟨knLo low frm + i, by omega, by omega, rfl⟩
  · rintro ⟨s, h1, h2, rfl⟩
    exact ⟨s - knLo low frm, by omega, by rw [show knLo low frm + (s - knLo low frm) = s by omega]⟩

theorem kn_iff (low : Nat) (L : List Int) (frm to : Int) (hf : 0 ≤ frm) (ht : 0 ≤ to) (hL : 0 < L.length) (s : Nat) :
    (knLo low frm ≤ s ∧ s ≤ knHi low L to) ↔ ∃ i : Nat, i < L.length + 3 ∧ s = low + i + 1 ∧ atB low L ((low : Int) + (i : Int) + 1) = true ∧ frm ≤ (low : Int) + (i : Int) + 1 ∧ (low : Int) + (i : Int) + 1 ≤ to := by
  have e1 : knHi low L to = min to.toNat (low + L.length + 2) := rfl
  have e2 : knLo low frm = max (max frm 1).toNat (if low = 0 then 0 else low + 3) := rfl
  constructor
  · rintro ⟨h1, h2⟩
    refine ⟨s - low - 1, ?_, ?_, ?_, ?_, ?_⟩
    · split at e2 <;> omega
    · split at e2 <;> omega
    · unfold atB bh
      refine decide_eq_true ?_
      split at e2 <;> split <;> omega
    · split at e2 <;> omega
    · split at e2 <;> omega
  · rintro ⟨i, h1, rfl, h3, h4, h5⟩
    unfold atB bh at h3
    have h3' := of_decide_eq_true h3
    split at e2 <;> split at h3' <;> omega

theorem span_same {low : Nat} {L : List Int} (hok : ChnOk low L) (frm to : Int) (hf : 0 ≤ frm) (ht : 0 ≤ to) : spanF (knL low L frm to) = setK (gath low L frm to (L.length + 3)) 7 := by
  rw [spanF_set _ (fun x hx => by obtain ⟨s, _, _, rfl⟩ := (mem_knL _ _ _ _ _).1 hx; exact atS_bd hok _)]
  refine setK_congr 7 fun j _ => ?_
  rw [mem_gath, List.mem_flatMap]
  constructor
  · rintro ⟨x, hx, hj⟩
    obtain ⟨s, h1, h2, rfl⟩ := (mem_knL _ _ _ _ _).1 hx
    obtain ⟨i, hi, rfl, h3, h4, h5⟩ := (kn_iff low L frm to hf ht hok.1 s).1 ⟨h1, h2⟩
    refine ⟨i, hi, h3, h4, h5, ?_⟩
    have e : ((low + i + 1 : Nat) : Int) = (low : Int) + (i : Int) + 1 := by omega
    rw [e] at hj
    exact hj
  · rintro ⟨i, hi, h3, h4, h5, hj⟩
    have h := (kn_iff low L frm to hf ht hok.1 (low + i + 1)).2 ⟨i, hi, rfl, h3, h4, h5⟩
    refine ⟨_, (mem_knL _ _ _ _ _).2 ⟨low + i + 1, h.1, h.2, rfl⟩, ?_⟩
    have e : ((low + i + 1 : Nat) : Int) = (low : Int) + (i : Int) + 1 := by omega
    rw [e]
    exact hj
end Go.Proofs.Ytkcehpnppfmfnaa
