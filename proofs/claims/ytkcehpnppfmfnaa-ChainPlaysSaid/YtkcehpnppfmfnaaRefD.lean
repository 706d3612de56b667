/-
  The reference of layer 15: Release. Conditions: the chain's numbers lie within the document's bounds.
-/
import Derived.Test.YtkcehpnppfmfnaaRefC
namespace Go.Proofs.Ytkcehpnppfmfnaa
open Go.RowKit

theorem rrel_far {w : World} {G : Nat → Prop} {v : Value} {low : Nat} {L : List Int} (h : RCh w G v low L) (hok : ChnOk low L) (s : Int) (_h1 : s ≤ 18446744073709551615) (hd : (low : Int) + (L.length : Int) - 1 < s) :
    Calls Try.prog 24 #[v, .int .u64 s] w fun e w' => e = .returned (.tuple #[v, .int .i64 13]) ∧ Upd (fun _ => False) w w' := by
  have hT := fun wx (hu : Upd (fun _ => False) w wx) => rtop_any (h.still hu) hok
  obtain ⟨A, c, rfl, hs⟩ := h
  obtain ⟨k0, k1, k2⟩ := hok
  have HT := Lib.hid hT
  clear hT k2 hs
  generalize L.length = n at *
  go_enter Try.func24, Try.ntmps24
  go_wp2_with fail
  refine (HT.out _ (((Upd.refl _ _).alloc _).alloc _)).mono ?_
  rintro e w1 ⟨rfl, hu⟩
  have hbx : ∀ i, w1.cell? ⟨w.heap.size, i, none⟩ = (#[Value.int .u64 (low : Int), .slice A n c])[i]? := fun i => (((Blk.new w 36 #[.int .u64 (low : Int), .slice A n c]).alloc _).upd hu id).cell i
  have hb0 := hbx 0
  have hb1 := hbx 1
  simp only [List.getElem?_toArray, List.getElem?_cons_zero, List.getElem?_cons_succ] at hb0 hb1
  have HR := Lib.hid ((Blk.newAt (w.alloc (.cells #[.int .u64 (low : Int), .slice A n c] 36)) (g := w.heap.size + 1) 36 #[.int .u64 0, .slice none 0 0] (by simp)).upd hu id)
  have hr0 : w1.frozen? ⟨w.heap.size + 1, 0, none⟩ = false := HR.out.frozen 0
  have hr1 : w1.frozen? ⟨w.heap.size + 1, 1, none⟩ = false := HR.out.frozen 1
  have hr2 : w1.cell? ⟨w.heap.size + 1, 0, none⟩ = some (.int .u64 0) := HR.out.cell 0
  have hr3 : w1.cell? ⟨w.heap.size + 1, 1, none⟩ = some (.slice none 0 0) := HR.out.cell 1
  have HU := Lib.hid hu
  clear hu hbx
  go_wp2_with fail
  have hB := (HR.out.set_ 0 (.int .u64 (low : Int))).set_ 1 (.slice A n c)
  have q0 := hB.cell 0
  have q1 := hB.cell 1
  simp at q0 q1
  refine bodyPost_ret (v := .tuple #[.agg #[.int .u64 (low : Int), .slice A n c], .int .i64 13]) (by simp [results, Try.results24, go_sem, q0, q1]) rfl ⟨rfl, ?_⟩
  exact (((((Upd.refl (fun _ => False) w).alloc _).alloc _).trans HU.out (fun _ _ h => h)).setCell (.inr (by simp)) _).setCell (.inr (by simp)) _

def rrelPre (w : World) (G : Nat → Prop) (low : Nat) (L : List Int) (k : Nat) (wr : World) : Prop :=
  Upd (fun _ => False) w wr ∧ w.heap.size + 2 ≤ wr.heap.size ∧ Blk wr (w.heap.size + 1) 36 #[.int .u64 0, .slice none 0 0] ∧ ∃ A c, Blk wr w.heap.size 36 #[.int .u64 ((low : Int) + (k : Int)), .slice A (L.length - k) c] ∧ Sl wr G 1 (.slice A (L.length - k) c) (L.length - k) ((L.drop k).map (Value.int .u8))

set_option maxRecDepth 100000 in
set_option maxHeartbeats 4000000 in
theorem rrel_ok {w : World} {G : Nat → Prop} {v : Value} {low : Nat} {L : List Int} (h : RCh w G v low L) (hok : ChnOk low L) (s : Int) (h0 : 0 ≤ s) (hd : s ≤ (low : Int) + (L.length : Int) - 1) (hG : ∀ k, G k → k < w.heap.size) :
    Calls Try.prog 24 #[v, .int .u64 s] w fun e w' => ∃ v', e = .returned (.tuple #[v', .int .i64 0]) ∧ Upd (fun _ => False) w w' ∧ RCh w' G v' (relLow low s) (L.drop (relLow low s - low)) := by
  have hT := fun wx (hu : Upd (fun _ => False) w wx) => rtop_any (h.still hu) hok
  obtain ⟨A, c, rfl, hs⟩ := h
  obtain ⟨k0, k1, k2⟩ := hok
  have HT := Lib.hid hT
  have HS := Lib.hid hs
  have HG := Lib.hid hG
  obtain ⟨r, hr⟩ : ∃ r, r = relLow low s - low := ⟨_, rfl⟩
  have hrl : relLow low s = low + r := by unfold relLow at hr ⊢; omega
  have hrL : r < L.length := by
    have : bh (s + 1) ≤ s := by unfold bh; split <;> omega
    unfold relLow at hr
    omega
  have hst : ∀ k : Nat, k ≤ r → (3 ≤ s ∧ (low : Int) + (k : Int) < s - 2 ↔ k < r) := by
    intro k hk
    unfold relLow bh at hr
    split at hr <;> omega
  have hrn : 0 < r → r + 3 ≤ L.length := by
    intro h
    unfold relLow bh at hr
    split at hr <;> omega
  rw [hrl, Nat.add_sub_cancel_left]
  have HST := Lib.hid hst
  clear hT k2 hs hG hr hrl hst
  go_enter Try.func24, Try.ntmps24
  go_wp2_with fail
  refine (HT.out _ (((Upd.refl _ _).alloc _).alloc _)).mono ?_
  rintro e w1 ⟨rfl, hu⟩
  have HX := Lib.hid (((Blk.new w 36 #[.int .u64 (low : Int), .slice A L.length c]).alloc (.cells #[.int .u64 0, .slice none 0 0] 36)).upd hu id)
  have HR := Lib.hid ((Blk.newAt (w.alloc (.cells #[.int .u64 (low : Int), .slice A L.length c] 36)) (g := w.heap.size + 1) 36 #[.int .u64 0, .slice none 0 0] (by simp)).upd hu id)
  have HU := Lib.hid ((((Upd.refl (fun _ => False) w).alloc _).alloc _).trans hu (fun _ _ h => h))
  have hsz : w.heap.size + 2 ≤ w1.heap.size := by have := hu.size; simpa using this
  clear hu
  go_wp2_with fail
  go_loopw [] (fun wr => ∃ k : Nat, k ≤ r ∧ rrelPre w G low L k wr) (fun wr => low + r - (intOf ((wr.cell? ⟨w.heap.size, 0, none⟩).getD undef)).toNat)
  case atStart => exact ⟨0, Nat.zero_le _, HU.out, hsz, HR.out, A, c, HX.out, HS.out.upd HU.out (fun _ _ h => h)⟩
  case round =>
    obtain ⟨k, hk, hu, hz, hb0, A', c', hb, hsl⟩ := hrel
    have d0 : wr.cell? ⟨w.heap.size, 0, none⟩ = some (.int .u64 ((low : Int) + (k : Int))) := hb.cell 0
    have d1 : wr.cell? ⟨w.heap.size, 1, none⟩ = some (.slice A' (L.length - k) c') := hb.cell 1
    have f0 : wr.frozen? ⟨w.heap.size, 0, none⟩ = false := hb.frozen 0
    have f1 : wr.frozen? ⟨w.heap.size, 1, none⟩ = false := hb.frozen 1
    by_cases hlt : k < r
    · obtain ⟨h3, hlt'⟩ := (HST.out k hk).2 hlt
      obtain ⟨b, o, rfl, _, _, hnc, hcm, _⟩ := hsl.some_ (by omega)
      have hcut := hsl.cut (k := 1) (by omega)
      rw [if_neg (show ¬ c' = 1 by omega), ← List.map_drop, List.drop_drop] at hcut
      simp only [Option.map_some, Addr.add, Nat.one_ne_zero, if_false] at hcut
      have hwr : IntKind.u64.wrap ((low : Int) + (k : Int) + 1) = (low : Int) + (k : Int) + 1 := IntWalk.u64_in _ ⟨by omega, by omega⟩
      have HC : Hid (Sl wr G 1 (.slice (some ⟨b, o + 1, none⟩) (L.length - (k + 1)) (c' - 1)) (L.length - (k + 1)) ((L.drop (k + 1)).map (Value.int .u8))) := hcut
      have hm1 : L.length - k - 1 = L.length - (k + 1) := by omega
      have hm2 : 1 ≤ L.length - k := by omega
      have hc2 : c' ≠ 1 := by omega
      have hc3 : 1 ≤ c' := by omega
      have HLE := Lib.hid hrL
      have HU2 := Lib.hid hu
      have HB := Lib.hid hb
      have HB0 := Lib.hid hb0
      unfold maxLen at hcm
      clear hu hb hb0 hsl hcut hrL hrn
      go_wp2_with fail
      go_region
      all_goals
        go_wp2_with fail
        have hB := (HB.out.set_ 0 (.int .u64 ((low : Int) + (k : Int) + 1))).set_ 1 (.slice (some ⟨b, o + 1, none⟩) (L.length - (k + 1)) (c' - 1))
        have hU3 := Upd.drew (Upd.setCell (F := fun k => k = w.heap.size) (Upd.setCell (F := fun k => k = w.heap.size) (Upd.refl _ wr) (p := ⟨w.heap.size, 0, none⟩) (.inl rfl) (.int .u64 ((low : Int) + (k : Int) + 1))) (p := ⟨w.heap.size, 1, none⟩) (.inl rfl) (.slice (some ⟨b, o + 1, none⟩) (L.length - (k + 1)) (c' - 1)))
        have hB0 := HB0.out.upd hU3 (by omega)
        have q0 := hB.cell 0
        go_roundw
        case rel =>
          refine ⟨k + 1, by omega, HU2.out.trans hU3 (fun i hi h => by omega), Nat.le_trans hz hU3.size, hB0, some ⟨b, o + 1, none⟩, c' - 1, ?_, ?_⟩
          · have e : (low : Int) + ((k + 1 : Nat) : Int) = (low : Int) + (k : Int) + 1 := by omega
            rw [e]
            have hB' := hB
            simp at hB'
            exact hB'
          · exact HC.out.upd hU3 (fun g hg h => by have := HG.out g hg; omega)
        case measure =>
          have q1 : (World.drew ((wr.setCell ⟨w.heap.size, 0, none⟩ (.int .u64 ((low : Int) + (k : Int) + 1))).setCell ⟨w.heap.size, 1, none⟩ (.slice (some ⟨b, o + 1, none⟩) (L.length - (k + 1)) (c' - 1)))).cell? ⟨w.heap.size, 0, none⟩ = some (.int .u64 ((low : Int) + (k : Int) + 1)) := by simpa using q0
          rw [q1, d0]
          simp [intOf]
          omega
    · have hkr : k = r := by omega
      subst hkr
      have hno : ¬ (3 ≤ s ∧ (low : Int) + (k : Int) < s - 2) := fun h => hlt ((HST.out k (Nat.le_refl _)).1 h)
      have g0 : wr.frozen? ⟨w.heap.size + 1, 0, none⟩ = false := hb0.frozen 0
      have g1 : wr.frozen? ⟨w.heap.size + 1, 1, none⟩ = false := hb0.frozen 1
      have g2 : wr.cell? ⟨w.heap.size + 1, 0, none⟩ = some (.int .u64 0) := hb0.cell 0
      have g3 : wr.cell? ⟨w.heap.size + 1, 1, none⟩ = some (.slice none 0 0) := hb0.cell 1
      have HU2 := Lib.hid hu
      have HB := Lib.hid hb
      have HB0 := Lib.hid hb0
      have HSL := Lib.hid hsl
      by_cases h3 : 3 ≤ s
      · have hno2 : decide ((low : Int) + (k : Int) < s - 2) = false := decide_eq_false (by omega)
        clear hu hb hb0 hsl hno hlt hrn
        go_wp2_with fail
        have hB := (HB0.out.set_ 0 (.int .u64 ((low : Int) + (k : Int)))).set_ 1 (.slice A' (L.length - k) c')
        have q0 := hB.cell 0
        have q1 := hB.cell 1
        simp at q0 q1
        refine bodyPost_ret (v := .tuple #[.agg #[.int .u64 ((low : Int) + (k : Int)), .slice A' (L.length - k) c'], .int .i64 0]) (by simp [results, Try.results24, go_sem, q0, q1]) rfl ⟨_, rfl, (HU2.out.setCell (.inr (by simp)) _).setCell (.inr (by simp)) _, A', c', by rw [List.length_drop, Int.natCast_add], ?_⟩
        rw [List.length_drop]
        exact HSL.out.upd (Upd.setCell (F := fun k => k = w.heap.size + 1) (Upd.setCell (F := fun k => k = w.heap.size + 1) (Upd.refl _ wr) (p := ⟨w.heap.size + 1, 0, none⟩) (.inl rfl) _) (p := ⟨w.heap.size + 1, 1, none⟩) (.inl rfl) _) (fun g hg h => by have := HG.out g hg; omega)
      · have h3b : decide ((3 : Int) ≤ s) = false := decide_eq_false h3
        clear hu hb hb0 hsl hno hlt hrn
        go_wp2_with fail
        have hB := (HB0.out.set_ 0 (.int .u64 ((low : Int) + (k : Int)))).set_ 1 (.slice A' (L.length - k) c')
        have q0 := hB.cell 0
        have q1 := hB.cell 1
        simp at q0 q1
        refine bodyPost_ret (v := .tuple #[.agg #[.int .u64 ((low : Int) + (k : Int)), .slice A' (L.length - k) c'], .int .i64 0]) (by simp [results, Try.results24, go_sem, q0, q1]) rfl ⟨_, rfl, (HU2.out.setCell (.inr (by simp)) _).setCell (.inr (by simp)) _, A', c', by rw [List.length_drop, Int.natCast_add], ?_⟩
        rw [List.length_drop]
        exact HSL.out.upd (Upd.setCell (F := fun k => k = w.heap.size + 1) (Upd.setCell (F := fun k => k = w.heap.size + 1) (Upd.refl _ wr) (p := ⟨w.heap.size + 1, 0, none⟩) (.inl rfl) _) (p := ⟨w.heap.size + 1, 1, none⟩) (.inl rfl) _) (fun g hg h => by have := HG.out g hg; omega)
end Go.Proofs.Ytkcehpnppfmfnaa
