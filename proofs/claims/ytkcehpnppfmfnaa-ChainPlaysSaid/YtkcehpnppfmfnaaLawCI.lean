/-
  Release and Of, all their outcomes in one; a chain stays whole. Conditions: the chain's numbers lie within the document's bounds.
-/
import Derived.Test.YtkcehpnppfmfnaaLawCG
namespace Go.Proofs.Ytkcehpnppfmfnaa
open Go.RowKit

/-- A chain that was made by the calls alone: what lies below its low slot was forgotten, so three directories are left. -/
def Full (low : Nat) (L : List Int) : Prop := low = 0 ∨ 3 ≤ L.length

def relN (low : Nat) (L : List Int) (s : Int) : Nat := if s < (low : Int) + (L.length : Int) then relLow low s else low
def relL (low : Nat) (L : List Int) (s : Int) : List Int := if s < (low : Int) + (L.length : Int) then L.drop (relLow low s - low) else L
def relE (low : Nat) (L : List Int) (s : Int) : Int := if s < (low : Int) + (L.length : Int) then 0 else 13

theorem relLow_bd {low : Nat} {L : List Int} (hok : ChnOk low L) {s : Int} (h : s < (low : Int) + (L.length : Int)) : low ≤ relLow low s ∧ relLow low s - low < L.length ∧ (low < relLow low s → relLow low s - low + 3 ≤ L.length) := by
  obtain ⟨k0, k1, _⟩ := hok
  unfold relLow bh
  split <;> omega

theorem rel_keeps {low : Nat} {L : List Int} (hok : ChnOk low L) (hf : Full low L) (s : Int) : ChnOk (relN low L s) (relL low L s) ∧ Full (relN low L s) (relL low L s) ∧ (relL low L s).length ≤ L.length := by
  unfold relN relL
  by_cases h : s < (low : Int) + (L.length : Int)
  · rw [if_pos h, if_pos h]
    obtain ⟨b1, b2, b3⟩ := relLow_bd hok h
    obtain ⟨k0, k1, k2⟩ := hok
    refine ⟨⟨by rw [List.length_drop]; omega, by rw [List.length_drop]; omega, fun x hx => k2 x (List.mem_of_mem_drop hx)⟩, ?_, by rw [List.length_drop]; omega⟩
    unfold Full at hf ⊢
    rw [List.length_drop]
    by_cases hlt : low < relLow low s
    · have := b3 hlt; omega
    · have : relLow low s = low := by omega
      rw [this]
      omega
  · rw [if_neg h, if_neg h]
    exact ⟨hok, hf, Nat.le_refl _⟩

theorem step_full {low : Nat} {L : List Int} (hf : Full low L) (s : Int) : Full low (stepL low L s) := by
  have := stepL_ge low L s
  unfold Full at *
  omega

theorem crel_all {w : World} {F : Nat → Prop} {p : Value} {low : Nat} {L : List Int} (h : Chn w F p low L) (hok : ChnOk low L) (s : Int) (h0 : 0 ≤ s) (hl : L.length ≤ 1000000) :
    Calls Try.prog 17 #[p, .int .u64 s] w fun e w' => e = .returned (.int .i64 (relE low L s)) ∧ ChnTo w F p (relN low L s) (relL low L s) w' := by
  by_cases hs : s < (low : Int) + (L.length : Int)
  · rw [relE, relN, relL, if_pos hs, if_pos hs, if_pos hs]
    exact rel_ok h hok s h0 hs hl
  · rw [relE, relN, relL, if_neg hs, if_neg hs, if_neg hs]
    refine (rel_far h hok s (by omega)).mono ?_
    rintro e w' ⟨he, n, rfl⟩
    exact ⟨he, (Upd.refl _ _).drewN _, F, fun k hk => .inl hk, h.drewN n⟩

theorem rrel_all {w : World} {G : Nat → Prop} {v : Value} {low : Nat} {L : List Int} (h : RCh w G v low L) (hok : ChnOk low L) (s : Int) (h0 : 0 ≤ s) (h1 : s ≤ 18446744073709551615) (hG : ∀ k, G k → k < w.heap.size) :
    Calls Try.prog 24 #[v, .int .u64 s] w fun e w' => ∃ A c, e = .returned (.tuple #[.agg #[.int .u64 (relN low L s : Int), .slice A (relL low L s).length c], .int .i64 (relE low L s)]) ∧ Upd (fun _ => False) w w' ∧ Sl w' (fun k => G k ∨ (w.heap.size ≤ k ∧ k < w'.heap.size)) 1 (.slice A (relL low L s).length c) (relL low L s).length ((relL low L s).map (Value.int .u8)) := by
  by_cases hs : s < (low : Int) + (L.length : Int)
  · rw [relE, relN, relL, if_pos hs, if_pos hs, if_pos hs]
    refine (rrel_ok h hok s h0 (by omega) hG).mono ?_
    rintro e w' ⟨v', rfl, hu, A, c, rfl, hs⟩
    exact ⟨A, c, rfl, hu, hs.more (fun k hk => .inl hk)⟩
  · rw [relE, relN, relL, if_neg hs, if_neg hs, if_neg hs]
    refine (rrel_far h hok s h1 (by omega)).mono ?_
    rintro e w' ⟨rfl, hu⟩
    obtain ⟨A, c, rfl, hs⟩ := h
    exact ⟨A, c, rfl, hu, (hs.upd hu (fun _ _ h => h)).more (fun k hk => .inl hk)⟩

theorem tail_size (L : List Int) : (strOfNums (L.drop (L.length - 3))).size = L.length - (L.length - 3) := by
  have := nums_length (strOfNums (L.drop (L.length - 3)))
  rw [← this]
  unfold nums
  rw [strOfNums_data, List.map_map, List.length_map, List.length_drop]

theorem tail_nums {low : Nat} {L : List Int} (hok : ChnOk low L) : nums (strOfNums (L.drop (L.length - 3))) = L.drop (L.length - 3) :=
  nums_strOf _ (fun x hx => by have := hok.2.2 x (List.mem_of_mem_drop hx); omega)
theorem tail_dirs {low : Nat} {L : List Int} (hok : ChnOk low L) : dirsB (L.drop (L.length - 3)) = true :=
  List.all_eq_true.2 fun x hx => by have := hok.2.2 x (List.mem_of_mem_drop hx); unfold dirB; exact decide_eq_true this

theorem of_keeps {low : Nat} {L : List Int} (hok : ChnOk low L) (hf : Full low L) : ChnOk (low + (L.length - 3)) (L.drop (L.length - 3)) ∧ Full (low + (L.length - 3)) (L.drop (L.length - 3)) ∧ (L.drop (L.length - 3)).length ≤ L.length := by
  obtain ⟨k0, k1, k2⟩ := hok
  refine ⟨⟨by rw [List.length_drop]; omega, by rw [List.length_drop]; omega, fun x hx => k2 x (List.mem_of_mem_drop hx)⟩, ?_, by rw [List.length_drop]; omega⟩
  unfold Full at *
  rw [List.length_drop]
  omega

theorem cof_tail {low : Nat} {L : List Int} (hok : ChnOk low L) (hf : Full low L) (w : World) :
    Calls Try.prog 12 #[.int .u64 ((low : Int) + (L.length : Int) - 1), .string (strOfNums (L.drop (L.length - 3)))] w fun e w' => ∃ b, e = .returned (.tuple #[.pointer (some ⟨b, 0, none⟩), .int .i64 0]) ∧ ChnNew w (.pointer (some ⟨b, 0, none⟩)) (low + (L.length - 3)) (L.drop (L.length - 3)) w' := by
  have hs := tail_size L
  have hn := tail_nums hok
  have hd := tail_dirs hok
  obtain ⟨k0, k1, k2⟩ := hok
  unfold Full at hf
  have h := of_walk ((low : Int) + (L.length : Int) - 1) (strOfNums (L.drop (L.length - 3))) w (low + (L.length - 3)) (by omega) (by omega) (by omega) (by omega)
  rw [hn] at h
  refine h.mono ?_
  rintro e w' (⟨h, _⟩ | ⟨_, p, rfl, hc⟩)
  · rw [hd] at h; exact absurd h (by decide)
  · obtain ⟨hu, F, hF, hC⟩ := hc
    obtain ⟨b, rfl⟩ := hC.ptr
    exact ⟨b, rfl, hu, F, hF, hC⟩

theorem rof_tail {low : Nat} {L : List Int} (hok : ChnOk low L) (hf : Full low L) (w : World) :
    Calls Try.prog 13 #[.int .u64 ((low : Int) + (L.length : Int) - 1), .string (strOfNums (L.drop (L.length - 3)))] w fun e w' => ∃ A c, e = .returned (.tuple #[.agg #[.int .u64 ((low + (L.length - 3) : Nat) : Int), .slice A (L.drop (L.length - 3)).length c], .int .i64 0]) ∧ Upd (fun _ => False) w w' ∧ Sl w' (fun k => w.heap.size ≤ k ∧ k < w'.heap.size) 1 (.slice A (L.drop (L.length - 3)).length c) (L.drop (L.length - 3)).length ((L.drop (L.length - 3)).map (Value.int .u8)) := by
  have hs := tail_size L
  have hn := tail_nums hok
  have hd := tail_dirs hok
  obtain ⟨k0, k1, k2⟩ := hok
  unfold Full at hf
  have h := rof_walk ((low : Int) + (L.length : Int) - 1) (strOfNums (L.drop (L.length - 3))) w (low + (L.length - 3)) (by omega) (by omega) (by omega) (by omega)
  rw [hn] at h
  refine h.mono ?_
  rintro e w' (⟨h, _⟩ | ⟨_, v, rfl, hu, A, c, rfl, hs⟩)
  · rw [hd] at h; exact absurd h (by decide)
  · exact ⟨A, c, rfl, hu, hs⟩
end Go.Proofs.Ytkcehpnppfmfnaa
