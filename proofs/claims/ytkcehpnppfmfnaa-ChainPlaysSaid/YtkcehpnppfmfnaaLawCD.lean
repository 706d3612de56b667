/-
  ChainTails: plain law on chains, their tails, and what is released; three chains side by side. Conditions: none.
-/
import Derived.Test.YtkcehpnppfmfnaaLawCA
namespace Go.Proofs.Ytkcehpnppfmfnaa
open Go.RowKit

section
variable (M P : List Int)
theorem tail_split : M = M.take (M.length - 3) ++ M.drop (M.length - 3) := (List.take_append_drop _ _).symm

theorem at_same (slot : Int) (h : (M.length : Int) ≤ slot) (hM : 0 < M.length) :
    atB (M.length - 3) (M.drop (M.length - 3) ++ P) slot = atB 0 (M ++ P) slot ∧ atS (M.length - 3) (M.drop (M.length - 3) ++ P) slot = atS 0 (M ++ P) slot ∧
      atB 0 (M ++ P) slot = decide (slot ≤ (M.length : Int) + (P.length : Int) - 1 + 3) := by
  have e3 : atB 0 (M ++ P) slot = decide (slot ≤ (M.length : Int) + (P.length : Int) - 1 + 3) := by
    unfold atB bh
    rw [decide_eq_decide, List.length_append]
    split <;> omega
  have e1 : atB (M.length - 3) (M.drop (M.length - 3) ++ P) slot = atB 0 (M ++ P) slot := by
    rw [e3]
    unfold atB bh
    rw [decide_eq_decide, List.length_append, List.length_drop]
    split <;> omega
  refine ⟨e1, ?_, e3⟩
  unfold atS
  rw [e1]
  by_cases hb : atB 0 (M ++ P) slot = true
  · rw [if_pos hb, if_pos hb]
    rw [e3] at hb
    have hb' := of_decide_eq_true hb
    obtain ⟨j, hj⟩ : ∃ j : Nat, bh slot = ((M.length - 3 : Nat) : Int) + (j : Int) := ⟨(bh slot - ((M.length - 3 : Nat) : Int)).toNat, by unfold bh; split <;> omega⟩
    rw [hj, show (((M.length - 3 : Nat) : Int) + (j : Int) - ((M.length - 3 : Nat) : Int)).toNat = j from by omega, show (((M.length - 3 : Nat) : Int) + (j : Int) - ((0 : Nat) : Int)).toNat = M.length - 3 + j from by omega]
    have key : (M ++ P).drop (M.length - 3) = M.drop (M.length - 3) ++ P := by rw [List.drop_append_of_le_length (by omega)]
    rw [List.getD, List.getD, ← key, List.getElem?_drop]
  · rw [if_neg hb, if_neg hb]

theorem tails_same (hM : 0 < M.length) : (M ++ P).drop ((M ++ P).length - 3) = (M.drop (M.length - 3) ++ P).drop ((M.drop (M.length - 3) ++ P).length - 3) := by
  have key : (M ++ P).drop (M.length - 3) = M.drop (M.length - 3) ++ P := by rw [List.drop_append_of_le_length (by omega)]
  rw [← key, List.length_drop, List.length_append, List.drop_drop]
  congr 1
  omega

theorem knL_same (hM : 0 < M.length) (to : Int) : knL (M.length - 3) (M.drop (M.length - 3) ++ P) (M.length : Int) to = knL 0 (M ++ P) (M.length : Int) to := by
  have e1 : knLo (M.length - 3) (M.length : Int) = M.length := by unfold knLo; split <;> omega
  have e2 : knLo 0 (M.length : Int) = M.length := by unfold knLo; simp; omega
  have e3 : knHi (M.length - 3) (M.drop (M.length - 3) ++ P) to = knHi 0 (M ++ P) to := by
    unfold knHi
    rw [List.length_append, List.length_append, List.length_drop]
    omega
  unfold knL
  rw [e1, e2, e3]
  refine List.map_congr_left fun i _ => ?_
  exact (at_same M P ((M.length + i : Nat) : Int) (by omega) hM).2.1

theorem nums_strOf (xs : List Int) (h : ∀ x ∈ xs, 0 ≤ x ∧ x ≤ 255) : nums (strOfNums xs) = xs := by
  unfold nums
  rw [strOfNums_data, List.map_map]
  conv => rhs; rw [← List.map_id xs]
  refine List.map_congr_left fun x hx => ?_
  have := h x hx
  simp only [Function.comp, id, UInt8.toNat_ofNat']
  omega
end

theorem ChnTo.of_drewN {w w' : World} {F : Nat → Prop} {p : Value} {low : Nat} {L : List Int} {n : Nat} (h : ChnTo (w.drewN n) F p low L w') : ChnTo w F p low L w' :=
  ⟨((Upd.refl F w).drewN n).trans h.1 (fun _ _ h => h), h.2⟩
theorem ChnTo.of_drew {w w' : World} {F : Nat → Prop} {p : Value} {low : Nat} {L : List Int} (h : ChnTo w.drew F p low L w') : ChnTo w F p low L w' :=
  ⟨(Upd.refl F w).drew.trans h.1 (fun _ _ h => h), h.2⟩

/-- Three chains beside one another, all in new blocks. -/
def Three' (w wr : World) (px py pz : Value) (lx ly lz : Nat) (X Y Z : List Int) : Prop :=
  Upd (fun _ => False) w wr ∧ ∃ Fx Fy Fz : Nat → Prop, (∀ k, Fx k → w.heap.size ≤ k ∧ k < wr.heap.size) ∧ (∀ k, Fy k → w.heap.size ≤ k ∧ k < wr.heap.size) ∧ (∀ k, Fz k → w.heap.size ≤ k ∧ k < wr.heap.size) ∧
    (∀ k, Fx k → ¬ Fy k) ∧ (∀ k, Fx k → ¬ Fz k) ∧ (∀ k, Fy k → ¬ Fz k) ∧ Chn wr Fx px lx X ∧ Chn wr Fy py ly Y ∧ Chn wr Fz pz lz Z

section
variable {w wr : World} {px py pz : Value} {lx ly lz : Nat} {X Y Z : List Int}
theorem Three'.upd (h : Three' w wr px py pz lx ly lz X Y Z) : Upd (fun _ => False) w wr := h.1
theorem Three'.x (h : Three' w wr px py pz lx ly lz X Y Z) : ∃ F, Chn wr F px lx X ∧ ∀ w' l' X', ChnTo wr F px l' X' w' → Three' w w' px py pz l' ly lz X' Y Z := by
  obtain ⟨hu, Fx, Fy, Fz, bx, by_, bz, xy, xz, yz, cx, cy, cz⟩ := h
  refine ⟨Fx, cx, fun w' l' X' hto => ?_⟩
  obtain ⟨hu', F', hF', hc⟩ := hto
  obtain ⟨G, hG, hcG⟩ := hc.lt
  have hs := hu.size
  have hs' := hu'.size
  have hGx : ∀ k, G k → Fx k ∨ wr.heap.size ≤ k := fun k hk => hF' k (hG k hk).1
  refine ⟨upd_none_of_new hu (fun k hk => (bx k hk).1) hu', G, Fy, Fz, fun k hk => ⟨?_, (hG k hk).2⟩, fun k hk => ⟨(by_ k hk).1, by have := (by_ k hk).2; omega⟩, fun k hk => ⟨(bz k hk).1, by have := (bz k hk).2; omega⟩,
    apart_grow xy (fun k hk => (by_ k hk).2) hGx, apart_grow xz (fun k hk => (bz k hk).2) hGx, yz, hcG, cy.upd hu' (fun k hk hx => xy k hx hk), cz.upd hu' (fun k hk hx => xz k hx hk)⟩
  rcases hGx k hk with h | h
  · exact (bx k h).1
  · omega
theorem Three'.y (h : Three' w wr px py pz lx ly lz X Y Z) : ∃ F, Chn wr F py ly Y ∧ ∀ w' l' Y', ChnTo wr F py l' Y' w' → Three' w w' px py pz lx l' lz X Y' Z := by
  obtain ⟨hu, Fx, Fy, Fz, bx, by_, bz, xy, xz, yz, cx, cy, cz⟩ := h
  refine ⟨Fy, cy, fun w' l' Y' hto => ?_⟩
  obtain ⟨hu', F', hF', hc⟩ := hto
  obtain ⟨G, hG, hcG⟩ := hc.lt
  have hs := hu.size
  have hs' := hu'.size
  have hGx : ∀ k, G k → Fy k ∨ wr.heap.size ≤ k := fun k hk => hF' k (hG k hk).1
  have yx : ∀ k, Fy k → ¬ Fx k := fun k hy hx => xy k hx hy
  refine ⟨upd_none_of_new hu (fun k hk => (by_ k hk).1) hu', Fx, G, Fz, fun k hk => ⟨(bx k hk).1, by have := (bx k hk).2; omega⟩, fun k hk => ⟨?_, (hG k hk).2⟩, fun k hk => ⟨(bz k hk).1, by have := (bz k hk).2; omega⟩,
    fun k hx hg => apart_grow yx (fun k hk => (bx k hk).2) hGx k hg hx, xz, apart_grow yz (fun k hk => (bz k hk).2) hGx, cx.upd hu' (fun k hk hy => xy k hk hy), hcG, cz.upd hu' (fun k hk hy => yz k hy hk)⟩
  rcases hGx k hk with h | h
  · exact (by_ k h).1
  · omega
theorem Three'.z (h : Three' w wr px py pz lx ly lz X Y Z) : ∃ F, Chn wr F pz lz Z ∧ ∀ w' l' Z', ChnTo wr F pz l' Z' w' → Three' w w' px py pz lx ly l' X Y Z' := by
  obtain ⟨hu, Fx, Fy, Fz, bx, by_, bz, xy, xz, yz, cx, cy, cz⟩ := h
  refine ⟨Fz, cz, fun w' l' Z' hto => ?_⟩
  obtain ⟨hu', F', hF', hc⟩ := hto
  obtain ⟨G, hG, hcG⟩ := hc.lt
  have hs := hu.size
  have hs' := hu'.size
  have hGx : ∀ k, G k → Fz k ∨ wr.heap.size ≤ k := fun k hk => hF' k (hG k hk).1
  have zx : ∀ k, Fz k → ¬ Fx k := fun k hz hx => xz k hx hz
  have zy : ∀ k, Fz k → ¬ Fy k := fun k hz hy => yz k hy hz
  refine ⟨upd_none_of_new hu (fun k hk => (bz k hk).1) hu', Fx, Fy, G, fun k hk => ⟨(bx k hk).1, by have := (bx k hk).2; omega⟩, fun k hk => ⟨(by_ k hk).1, by have := (by_ k hk).2; omega⟩, fun k hk => ⟨?_, (hG k hk).2⟩,
    xy, fun k hx hg => apart_grow zx (fun k hk => (bx k hk).2) hGx k hg hx, fun k hy hg => apart_grow zy (fun k hk => (by_ k hk).2) hGx k hg hy, cx.upd hu' (fun k hk hz => xz k hk hz), cy.upd hu' (fun k hk hz => yz k hk hz), hcG⟩
  rcases hGx k hk with h | h
  · exact (bz k h).1
  · omega
theorem Three'.still (h : Three' w wr px py pz lx ly lz X Y Z) {w' : World} (hu' : Upd (fun _ => False) wr w') : Three' w w' px py pz lx ly lz X Y Z := by
  obtain ⟨hu, Fx, Fy, Fz, bx, by_, bz, xy, xz, yz, cx, cy, cz⟩ := h
  have hs := hu'.size
  exact ⟨hu.trans hu' (fun _ _ h => h), Fx, Fy, Fz, fun k hk => ⟨(bx k hk).1, by have := (bx k hk).2; omega⟩, fun k hk => ⟨(by_ k hk).1, by have := (by_ k hk).2; omega⟩, fun k hk => ⟨(bz k hk).1, by have := (bz k hk).2; omega⟩,
    xy, xz, yz, cx.upd hu' (fun _ _ h => h), cy.upd hu' (fun _ _ h => h), cz.upd hu' (fun _ _ h => h)⟩
theorem Three'.drewN (h : Three' w wr px py pz lx ly lz X Y Z) (n : Nat) : Three' w (wr.drewN n) px py pz lx ly lz X Y Z := h.still ((Upd.refl _ _).drewN n)
theorem Three'.drew (h : Three' w wr px py pz lx ly lz X Y Z) : Three' w wr.drew px py pz lx ly lz X Y Z := h.still (Upd.refl _ _).drew
end

end Go.Proofs.Ytkcehpnppfmfnaa
