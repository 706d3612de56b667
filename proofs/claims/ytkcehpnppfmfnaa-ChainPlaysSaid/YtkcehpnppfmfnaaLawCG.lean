/-
  Pairs: a chain in memory beside a chain of the reference in one variable; one push on both. Conditions: the chain's numbers lie within the document's bounds; at most 1000 directories.
-/
import Derived.Test.YtkcehpnppfmfnaaLawCF
import Derived.Test.YtkcehpnppfmfnaaLawCD
import Derived.Deep.RegionWith
namespace Go.Proofs.Ytkcehpnppfmfnaa
open Go.RowKit

/-- The directories behind one push, and its answer. -/
def stepL (low : Nat) (L : List Int) (s : Int) : List Int := if dirB s = true ∧ low + L.length ≤ 4611686018427387904 then L ++ [s] else L
def stepE (low : Nat) (L : List Int) (s : Int) : Int := if dirB s = false then 2 else if low + L.length ≤ 4611686018427387904 then 0 else 7

theorem stepL_len (low : Nat) (L : List Int) (s : Int) : (stepL low L s).length ≤ L.length + 1 := by
  unfold stepL; split <;> simp
theorem stepL_ge (low : Nat) (L : List Int) (s : Int) : L.length ≤ (stepL low L s).length := by
  unfold stepL; split <;> simp
theorem stepL_ok {low : Nat} {L : List Int} (hok : ChnOk low L) (s : Int) : ChnOk low (stepL low L s) := by
  unfold stepL
  split
  · rename_i h
    obtain ⟨a, b, c⟩ := hok
    refine ⟨by simp, by simp; omega, fun x hx => ?_⟩
    rcases List.mem_append.1 hx with h' | h'
    · exact c x h'
    · simp at h'; subst h'; exact dirB_true h.1
  · exact hok

theorem cpush_all {w : World} {F : Nat → Prop} {p : Value} {low : Nat} {L : List Int} (h : Chn w F p low L) (hok : ChnOk low L) (s : Int) (h0 : 0 ≤ s) (h1 : s ≤ 255) (hl : L.length ≤ 1000000) :
    Calls Try.prog 15 #[p, .int .u8 s] w fun e w' => e = .returned (.int .i64 (stepE low L s)) ∧ ChnTo w F p low (stepL low L s) w' := by
  by_cases hd : dirB s = true
  · by_cases hf : low + L.length ≤ 4611686018427387904
    · rw [stepE, if_neg (by rw [hd]; decide), if_pos hf, stepL, if_pos ⟨hd, hf⟩]
      exact push_ok h hok s h0 h1 hd hf hl
    · rw [stepE, if_neg (by rw [hd]; decide), if_neg hf, stepL, if_neg (fun h => hf h.2)]
      refine (push_full h hok s h0 h1 hd (by omega)).mono ?_
      rintro e w' ⟨he, n, rfl⟩
      exact ⟨he, (Upd.refl _ _).drewN _, F, fun k hk => .inl hk, h.drewN n⟩
  · have hd' : dirB s = false := by simpa using hd
    rw [stepE, if_pos hd', stepL, if_neg (fun h => hd h.1)]
    obtain ⟨b, rfl⟩ := h.ptr
    refine (push_bad b s w h0 h1 hd').mono ?_
    rintro e w' ⟨he, rfl⟩
    exact ⟨he, Upd.refl _ _, F, fun k hk => .inl hk, h⟩

theorem rpush_all {w : World} {G : Nat → Prop} {v : Value} {low : Nat} {L : List Int} (h : RCh w G v low L) (hok : ChnOk low L) (s : Int) (hl : L.length ≤ 1000) :
    Calls Try.prog 14 #[v, .int .u8 s] w fun e w' => ∃ A c, e = .returned (.tuple #[.agg #[.int .u64 (low : Int), .slice A (stepL low L s).length c], .int .i64 (stepE low L s)]) ∧ Upd (fun _ => False) w w' ∧ Sl w' (fun k => G k ∨ (w.heap.size ≤ k ∧ k < w'.heap.size)) 1 (.slice A (stepL low L s).length c) (stepL low L s).length ((stepL low L s).map (Value.int .u8)) := by
  by_cases hd : dirB s = true
  · by_cases hf : low + L.length ≤ 4611686018427387904
    · rw [stepE, if_neg (by rw [hd]; decide), if_pos hf, stepL, if_pos ⟨hd, hf⟩]
      refine (rpush_ok h hok s hd hf hl).mono ?_
      rintro e w' ⟨v', rfl, hu, A, c, rfl, hs⟩
      exact ⟨A, c, rfl, hu, hs.more (fun k hk => .inr hk)⟩
    · rw [stepE, if_neg (by rw [hd]; decide), if_neg hf, stepL, if_neg (fun h => hf h.2)]
      refine (rpush_full h hok s hd (by omega)).mono ?_
      rintro e w' ⟨rfl, hu⟩
      obtain ⟨A, c, rfl, hs⟩ := h
      exact ⟨A, c, rfl, hu, (hs.upd hu (fun _ _ h => h)).more (fun k hk => .inl hk)⟩
  · have hd' : dirB s = false := by simpa using hd
    rw [stepE, if_pos hd', stepL, if_neg (fun h => hd h.1)]
    refine (rpush_bad h s hd').mono ?_
    rintro e w' ⟨rfl, hu⟩
    obtain ⟨A, c, rfl, hs⟩ := h
    exact ⟨A, c, rfl, hu, (hs.upd hu (fun _ _ h => h)).more (fun k hk => .inl hk)⟩

/-- A chain at p, and a chain of the reference in the variable at block B; of what was there before, M's blocks alone have changed. -/
def Pr (M : Nat → Prop) (w1 : World) (B : Nat) (p : Value) (lc : Nat) (Lc : List Int) (lv : Nat) (Lv : List Int) (wr : World) : Prop :=
  (M B ∨ w1.heap.size ≤ B) ∧ Upd M w1 wr ∧ ∃ F G A c, Chn wr F p lc Lc ∧ Blk wr B 36 #[.int .u64 (lv : Int), .slice A Lv.length c] ∧ Sl wr G 1 (.slice A Lv.length c) Lv.length (Lv.map (Value.int .u8)) ∧ (∀ k, F k → (M k ∨ w1.heap.size ≤ k) ∧ k < wr.heap.size ∧ k ≠ B) ∧ (∀ k, G k → k < wr.heap.size ∧ ¬ F k ∧ k ≠ B)

section
variable {M : Nat → Prop} {w1 wr wz : World} {B : Nat} {p : Value} {lc lv : Nat} {Lc Lv : List Int}
theorem Pr.still (h : Pr M w1 B p lc Lc lv Lv wr) (hu : Upd (fun _ => False) wr wz) : Pr M w1 B p lc Lc lv Lv wz := by
  obtain ⟨hB, hu1, F, G, A, c, hC, hb, hs, hF, hG⟩ := h
  exact ⟨hB, hu1.trans hu (fun _ _ h => h.elim), F, G, A, c, hC.upd hu (fun _ _ h => h), hb.upd hu id, hs.upd hu (fun _ _ h => h), fun k hk => ⟨(hF k hk).1, Nat.lt_of_lt_of_le (hF k hk).2.1 hu.size, (hF k hk).2.2⟩, fun k hk => ⟨Nat.lt_of_lt_of_le (hG k hk).1 hu.size, (hG k hk).2⟩⟩
theorem Pr.cells (h : Pr M w1 B p lc Lc lv Lv wr) : ∃ A c G, wr.cell? ⟨B, 0, none⟩ = some (.int .u64 (lv : Int)) ∧ wr.cell? ⟨B, 1, none⟩ = some (.slice A Lv.length c) ∧ RCh wr G (.agg #[.int .u64 (lv : Int), .slice A Lv.length c]) lv Lv ∧ ∃ F, Chn wr F p lc Lc := by
  obtain ⟨hB, hu1, F, G, A, c, hC, hb, hs, hF, hG⟩ := h
  exact ⟨A, c, G, hb.cell 0, hb.cell 1, ⟨A, c, rfl, hs⟩, F, hC⟩
/-- The chain at p goes on. -/
theorem Pr.chain {lc' : Nat} {Lc' : List Int} (h : Pr M w1 B p lc Lc lv Lv wr) : ∃ F, Chn wr F p lc Lc ∧ ∀ wz, ChnTo wr F p lc' Lc' wz → Pr M w1 B p lc' Lc' lv Lv wz := by
  obtain ⟨hB, hu1, F, G, A, c, hC, hb, hs, hF, hG⟩ := h
  refine ⟨F, hC, fun wz hto => ?_⟩
  obtain ⟨hu, F', hF', hC'⟩ := hto
  obtain ⟨F2, hF2, hC2⟩ := hC'.lt
  have hbl := hb.lt
  have hnB : ¬ F B := fun h => (hF B h).2.2 rfl
  refine ⟨hB, hu1.trans hu (fun i hi h => by rcases (hF i h).1 with h | h; exact h; omega), F2, G, A, c, hC2, hb.upd hu hnB, hs.upd hu (fun k hk => (hG k hk).2.1), fun k hk => ?_, fun k hk => ?_⟩
  · have h2 := hF2 k hk
    rcases hF' k h2.1 with h | h
    · exact ⟨(hF k h).1, h2.2, (hF k h).2.2⟩
    · exact ⟨.inr (Nat.le_trans hu1.size h), h2.2, by omega⟩
  · obtain ⟨g1, g2, g3⟩ := hG k hk
    refine ⟨Nat.lt_of_lt_of_le g1 hu.size, fun hf => ?_, g3⟩
    rcases hF' k (hF2 k hf).1 with h | h
    · exact g2 h
    · omega
/-- The variable at B is written. -/
theorem Pr.store {lv' : Nat} {Lv' : List Int} (h : Pr M w1 B p lc Lc lv Lv wr) : ∃ A c G, RCh wr G (.agg #[.int .u64 (lv : Int), .slice A Lv.length c]) lv Lv ∧ wr.cell? ⟨B, 0, none⟩ = some (.int .u64 (lv : Int)) ∧ wr.cell? ⟨B, 1, none⟩ = some (.slice A Lv.length c) ∧
    (∀ k, G k → k < wr.heap.size ∧ k ≠ B) ∧ ∀ (wz : World) A' c', Upd (fun k => k = B) wr wz → wz.cell? ⟨B, 0, none⟩ = some (.int .u64 (lv' : Int)) → wz.cell? ⟨B, 1, none⟩ = some (.slice A' Lv'.length c') → Blk wz B 36 #[.int .u64 (lv' : Int), .slice A' Lv'.length c'] →
      Sl wz (fun k => (G k ∨ wr.heap.size ≤ k) ∧ k < wz.heap.size) 1 (.slice A' Lv'.length c') Lv'.length (Lv'.map (Value.int .u8)) → Pr M w1 B p lc Lc lv' Lv' wz := by
  obtain ⟨hB, hu1, F, G, A, c, hC, hb, hs, hF, hG⟩ := h
  refine ⟨A, c, G, ⟨A, c, rfl, hs⟩, hb.cell 0, hb.cell 1, fun k hk => ⟨(hG k hk).1, (hG k hk).2.2⟩, fun wz A' c' hu _ _ hb' hs' => ?_⟩
  have hbl := hb.lt
  refine ⟨hB, hu1.trans hu (fun i hi h => by subst h; rcases hB with h | h; exact h; omega), F, _, A', c', hC.upd hu (fun k hk => (hF k hk).2.2), hb', hs', fun k hk => ⟨(hF k hk).1, Nat.lt_of_lt_of_le (hF k hk).2.1 hu.size, (hF k hk).2.2⟩, fun k hk => ⟨hk.2, ?_, ?_⟩⟩
  · intro hf
    rcases hk.1 with h | h
    · exact (hG k h).2.1 hf
    · have := (hF k hf).2.1; omega
  · rcases hk.1 with h | h
    · exact (hG k h).2.2
    · omega
end
end Go.Proofs.Ytkcehpnppfmfnaa
