/-
  The reference of layer 15, its chains as values: Top, At, Tail, New, Push, Of, Release. Conditions: the chain's numbers lie within the document's bounds.
-/
import Derived.Test.YtkcehpnppfmfnaaRefA
namespace Go.Proofs.Ytkcehpnppfmfnaa
open Go.RowKit

/-- A chain as a value: its directories are readable and lie in blocks of G. -/
def RCh (w : World) (G : Nat → Prop) (v : Value) (low : Nat) (L : List Int) : Prop :=
  ∃ A c, v = .agg #[.int .u64 (low : Int), .slice A L.length c] ∧ Sl w G 1 (.slice A L.length c) L.length (L.map (Value.int .u8))
theorem RCh.keep {w w' : World} {G : Nat → Prop} {v : Value} {low : Nat} {L : List Int} (h : RCh w G v low L) {F : Nat → Prop} (hu : Upd F w w') (hd : ∀ k, G k → ¬ F k) : RCh w' G v low L := by
  obtain ⟨A, c, rfl, hs⟩ := h
  exact ⟨A, c, rfl, hs.upd hu hd⟩
theorem RCh.still {w w' : World} {G : Nat → Prop} {v : Value} {low : Nat} {L : List Int} (h : RCh w G v low L) (hu : Upd (fun _ => False) w w') : RCh w' G v low L := h.keep hu fun _ _ h => h

theorem rtop_any {w : World} {G : Nat → Prop} {v : Value} {low : Nat} {L : List Int} (h : RCh w G v low L) (hok : ChnOk low L) :
    Calls Try.prog 25 #[v] w fun e w' => e = .returned (.int .u64 ((low : Int) + (L.length : Int) - 1)) ∧ Upd (fun _ => False) w w' := by
  obtain ⟨A, c, rfl, hs⟩ := h
  obtain ⟨k0, k1, _⟩ := hok
  clear hs
  generalize L.length = n at *
  go_enter Try.func25, Try.ntmps25
  go_wp2
  go_ret
  exact ⟨rfl, (Upd.refl _ _).alloc _⟩

theorem Sl.some_ {w : World} {F : Nat → Prop} {size n : Nat} {A : Option Addr} {c : Nat} {xs : List Value} (h : Sl w F size (.slice A n c) n xs) (hn : 0 < n) : ∃ b o, A = some ⟨b, o, none⟩ ∧ F b ∧ b < w.heap.size ∧ n ≤ c ∧ c ≤ maxLen ∧ ∀ j u, xs[j]? = some u → w.cell? ⟨b, o + j, none⟩ = some u := by
  obtain ⟨_, A', c', e, hc, hm, _, hx⟩ := h
  simp only [Value.slice.injEq, true_and] at e
  obtain ⟨rfl, rfl⟩ := e
  obtain ⟨b, o, h1, h2, h3, h4⟩ := hx hn
  exact ⟨b, o, h1, h2, h3, hc, hm, h4⟩

theorem rtail_any {w : World} {G : Nat → Prop} {v : Value} {low : Nat} {L : List Int} (h : RCh w G v low L) (hl : L.length ≤ 1000000) (h0 : 0 < L.length) :
    Calls Try.prog 26 #[v] w fun e w' => e = .returned (.string (strOfNums (L.drop (L.length - 3)))) ∧ Upd (fun _ => False) w w' := by
  obtain ⟨A, c, rfl, hs⟩ := h
  obtain ⟨b, o, rfl, _, _, hnc, hcm, _⟩ := hs.some_ h0
  have hcut := hs.cut (k := L.length - 3) (by omega)
  rw [if_neg (show ¬ c = L.length - 3 by omega), ← List.map_drop] at hcut
  have hcv := run_string_of_sl (P := Try.prog) 22 9 5 Try.underlying22 Try.underlying5 Try.underlying9 (hcut.alloc (.cells #[.int .u64 (low : Int), .slice (some ⟨b, o, none⟩) L.length c] 36))
  generalize L.drop (L.length - 3) = T at *
  generalize L.length = n at *
  clear hs hcut
  unfold maxLen at hcm
  by_cases h3 : 3 < n
  · obtain ⟨m, rfl⟩ : ∃ m, n = m + 3 := ⟨n - 3, by omega⟩
    rw [show m + 3 - 3 = m from by omega, show m + 3 - m = 3 from by omega] at hcv
    simp only [Option.map_some, Addr.add, if_neg (show ¬ m = 0 by omega)] at hcv
    go_enter Try.func26, Try.ntmps26
    go_wp2
    go_ret
    exact ⟨rfl, (Upd.refl _ _).alloc _⟩
  · rw [show n - 3 = 0 from by omega, Nat.sub_zero, Nat.sub_zero] at hcv
    simp only [Option.map_some, Addr.add, if_true] at hcv
    go_enter Try.func26, Try.ntmps26
    go_wp2
    go_ret
    exact ⟨rfl, (Upd.refl _ _).alloc _⟩

set_option maxRecDepth 100000 in
set_option maxHeartbeats 4000000 in
theorem rat_any {w : World} {G : Nat → Prop} {v : Value} {low : Nat} {L : List Int} (h : RCh w G v low L) (hok : ChnOk low L) (slot : Int) (h0 : 0 ≤ slot) (h1 : slot ≤ 18446744073709551615) :
    Calls Try.prog 31 #[v, .int .u64 slot] w fun e w' => e = .returned (.tuple #[.int .u8 (atS low L slot), .bool (atB low L slot)]) ∧ Upd (fun _ => False) w w' := by
  have hT := fun wx (hu : Upd (fun _ => False) w wx) => rtop_any (h.still hu) hok
  obtain ⟨A, c, rfl, hs⟩ := h
  obtain ⟨k0, k1, k2⟩ := hok
  obtain ⟨b, o, rfl, hG, hbl, hnc, hcm, hcell⟩ := hs.some_ k0
  have HT := Lib.hid hT
  clear hs k2 hT
  by_cases hz : slot = 0
  · have e1 : atB low L slot = false := by simp [atB, hz]
    have e2 : atS low L slot = 0 := by simp [atS, e1]
    rw [e1, e2]
    subst hz
    clear e1 e2 hcell
    go_enter Try.func31, Try.ntmps31
    go_wp2_with fail
    go_ret2
    exact ⟨rfl, (Upd.refl _ _).alloc _⟩
  have hzb : (slot == 0) = false := beq_eq_false_iff_ne.2 hz
  by_cases h3 : slot ≤ 3
  · by_cases hl : low = 0
    · subst hl
      have e1 : atB 0 L slot = true := by simp only [atB, bh, if_pos h3]; exact decide_eq_true (by omega)
      have e2 : atS 0 L slot = L[0] := by
        simp only [atS, e1, if_true, bh, if_pos h3]
        simp [k0]
      rw [e1, e2]
      have hc := hcell 0 (.int .u8 L[0]) (by rw [List.getElem?_map, List.getElem?_eq_getElem k0]; rfl)
      obtain ⟨x, hx⟩ : ∃ x, x = L[0] := ⟨_, rfl⟩
      rw [← hx] at hc ⊢
      clear hx e1 e2 hcell hz
      generalize L.length = n at *
      unfold maxLen at hcm
      go_enter Try.func31, Try.ntmps31
      go_wp2_with fail
      refine (HT.out _ ((Upd.refl _ _).alloc _)).mono ?_
      rintro e w' ⟨rfl, hu⟩
      have hcw : w'.cell? ⟨b, o + 0, none⟩ = some (.int .u8 x) := ((((Upd.refl (fun _ => False) w).alloc _).trans hu (fun _ _ h => h)).cell (p := ⟨b, o + 0, none⟩) hbl id).trans hc
      rw [Nat.add_zero] at hcw
      have hbx : ∀ i, w'.cell? ⟨w.heap.size, i, none⟩ = (#[Value.int .u64 0, .slice (some ⟨b, o, none⟩) n c])[i]? := fun i => ((Blk.new w 36 #[.int .u64 0, .slice (some ⟨b, o, none⟩) n c]).upd hu id).cell i
      have hb0 := hbx 0
      have hb1 := hbx 1
      simp only [List.getElem?_toArray, List.getElem?_cons_zero, List.getElem?_cons_succ] at hb0 hb1
      have HU := Lib.hid hu
      clear hu hbx hc
      go_wp2_with fail
      go_ret2
      exact ⟨rfl, ((Upd.refl (fun _ => False) w).alloc _).trans HU.out (fun _ _ h => h)⟩
    · have e1 : atB low L slot = false := by simp only [atB, bh, if_pos h3]; exact decide_eq_false (by omega)
      have e2 : atS low L slot = 0 := by simp [atS, e1]
      rw [e1, e2]
      have hl0 : 0 < low := by omega
      clear e1 e2 hcell hl hz
      generalize L.length = n at *
      go_enter Try.func31, Try.ntmps31
      go_wp2_with fail
      go_ret2
      exact ⟨rfl, (Upd.refl _ _).alloc _⟩
  · by_cases hlt : slot - 3 < (low : Int)
    · have e1 : atB low L slot = false := by simp only [atB, bh, if_neg h3]; exact decide_eq_false (by omega)
      have e2 : atS low L slot = 0 := by simp [atS, e1]
      rw [e1, e2]
      clear e1 e2 hcell hz
      generalize L.length = n at *
      go_enter Try.func31, Try.ntmps31
      go_wp2_with fail
      go_ret2
      exact ⟨rfl, (Upd.refl _ _).alloc _⟩
    · by_cases hgt : (low : Int) + (L.length : Int) - 1 < slot - 3
      · have e1 : atB low L slot = false := by simp only [atB, bh, if_neg h3]; exact decide_eq_false (by omega)
        have e2 : atS low L slot = 0 := by simp [atS, e1]
        rw [e1, e2]
        clear e1 e2 hcell hz
        generalize L.length = n at *
        go_enter Try.func31, Try.ntmps31
        go_wp2_with fail
        refine (HT.out _ ((Upd.refl _ _).alloc _)).mono ?_
        rintro e w' ⟨rfl, hu⟩
        have HU := Lib.hid hu
        clear hu
        go_wp2_with fail
        go_ret2
        exact ⟨rfl, ((Upd.refl (fun _ => False) w).alloc _).trans HU.out (fun _ _ h => h)⟩
      · have e1 : atB low L slot = true := by simp only [atB, bh, if_neg h3]; exact decide_eq_true (by omega)
        obtain ⟨j, hj⟩ : ∃ j : Nat, slot = (low : Int) + (j : Int) + 3 := ⟨(slot - 3 - (low : Int)).toNat, by omega⟩
        have hjl : j < L.length := by omega
        have e2 : atS low L slot = L[j] := by
          simp only [atS, e1, if_true, bh, if_neg h3]
          rw [hj, show ((low : Int) + (j : Int) + 3 - 3 - (low : Int)).toNat = j from by omega]
          simp [hjl]
        rw [e1, e2]
        have hidx : slot - 3 - (low : Int) = (j : Int) := by omega
        clear hj
        have hc := hcell j (.int .u8 L[j]) (by rw [List.getElem?_map, List.getElem?_eq_getElem hjl]; rfl)
        obtain ⟨x, hx⟩ : ∃ x, x = L[j] := ⟨_, rfl⟩
        rw [← hx] at hc ⊢
        clear hx e1 e2 hcell hz
        generalize L.length = n at *
        unfold maxLen at hcm
        have j1 : (j : Int) < (n : Int) := by omega
        go_enter Try.func31, Try.ntmps31
        go_wp2_with fail
        refine (HT.out _ ((Upd.refl _ _).alloc _)).mono ?_
        rintro e w' ⟨rfl, hu⟩
        have hcw : w'.cell? ⟨b, o + j, none⟩ = some (.int .u8 x) := ((((Upd.refl (fun _ => False) w).alloc _).trans hu (fun _ _ h => h)).cell (p := ⟨b, o + j, none⟩) hbl id).trans hc
        have hbx : ∀ i, w'.cell? ⟨w.heap.size, i, none⟩ = (#[Value.int .u64 (low : Int), .slice (some ⟨b, o, none⟩) n c])[i]? := fun i => ((Blk.new w 36 #[.int .u64 (low : Int), .slice (some ⟨b, o, none⟩) n c]).upd hu id).cell i
        have hb0 := hbx 0
        have hb1 := hbx 1
        simp only [List.getElem?_toArray, List.getElem?_cons_zero, List.getElem?_cons_succ] at hb0 hb1
        have HU := Lib.hid hu
        clear hu hbx hc
        go_wp2_with fail
        go_ret2
        exact ⟨rfl, ((Upd.refl (fun _ => False) w).alloc _).trans HU.out (fun _ _ h => h)⟩

/-- A chain as a value, in new blocks alone. -/
def RNew (w : World) (v : Value) (low : Nat) (L : List Int) (w' : World) : Prop :=
  Upd (fun _ => False) w w' ∧ RCh w' (fun k => w.heap.size ≤ k ∧ k < w'.heap.size) v low L

theorem rnew_bad (s : Int) (w : World) (hd : dirB s = false) :
    Calls Try.prog 23 #[.int .u8 s] w fun e w' => e = .returned (.tuple #[.agg #[.int .u64 0, .slice none 0 0], .int .i64 2]) ∧ Upd (fun _ => False) w w' := by
  have HD := Lib.hid (fun wx => rdir_any s wx)
  rw [hd] at HD
  clear hd
  go_enter Try.func23, Try.ntmps23
  go_wp2_with fail
  refine (HD.out _).mono ?_
  rintro e w' ⟨rfl, rfl⟩
  go_wp2_with fail
  exact bodyPost_ret (v := .tuple #[.agg #[.int .u64 0, .slice none 0 0], .int .i64 2]) (by simp [results, Try.results23, go_sem]) rfl ⟨rfl, (Upd.refl _ _).alloc _⟩

theorem rnew_ok (s : Int) (w : World) (hd : dirB s = true) :
    Calls Try.prog 23 #[.int .u8 s] w fun e w' => ∃ v, e = .returned (.tuple #[v, .int .i64 0]) ∧ RNew w v 0 [s] w' := by
  have HD := Lib.hid (fun wx => rdir_any s wx)
  rw [hd] at HD
  clear hd
  go_enter Try.func23, Try.ntmps23
  go_wp2_with fail
  refine (HD.out _).mono ?_
  rintro e w' ⟨rfl, rfl⟩
  go_wp2_with fail
  refine bodyPost_ret (v := .tuple #[.agg #[.int .u64 0, .slice (some ⟨w.heap.size + 1, 0, none⟩) 1 1], .int .i64 0]) (by simp [results, Try.results23, go_sem]) rfl ⟨_, rfl, ((Upd.refl _ _).alloc _).alloc _, some ⟨w.heap.size + 1, 0, none⟩, 1, rfl, ?_⟩
  have h := Sl.one (w.alloc (.cells #[.int .u64 0, .slice (some ⟨w.heap.size + 1, 0, none⟩) 1 1] 36)) (.int .u8 s) 5
  simp only [World.size_alloc] at h
  exact h.more (fun k hk => by subst hk; simp)

theorem rpush_bad {w : World} {G : Nat → Prop} {v : Value} {low : Nat} {L : List Int} (h : RCh w G v low L) (s : Int) (hd : dirB s = false) :
    Calls Try.prog 14 #[v, .int .u8 s] w fun e w' => e = .returned (.tuple #[v, .int .i64 2]) ∧ Upd (fun _ => False) w w' := by
  have HD := Lib.hid (fun wx => rdir_any s wx)
  rw [hd] at HD
  obtain ⟨A, c, rfl, hs⟩ := h
  clear hs hd
  generalize L.length = n at *
  go_enter Try.func14, Try.ntmps14
  go_wp2_with fail
  refine (HD.out _).mono ?_
  rintro e w' ⟨rfl, rfl⟩
  go_wp2_with fail
  exact bodyPost_ret (v := .tuple #[.agg #[.int .u64 (low : Int), .slice A n c], .int .i64 2]) (by simp [results, Try.results14, go_sem]) rfl ⟨rfl, ((Upd.refl _ _).alloc _).alloc _⟩

theorem rpush_full {w : World} {G : Nat → Prop} {v : Value} {low : Nat} {L : List Int} (h : RCh w G v low L) (hok : ChnOk low L) (s : Int) (hd : dirB s = true) (hf : 4611686018427387904 < low + L.length) :
    Calls Try.prog 14 #[v, .int .u8 s] w fun e w' => e = .returned (.tuple #[v, .int .i64 7]) ∧ Upd (fun _ => False) w w' := by
  have HD := Lib.hid (fun wx => rdir_any s wx)
  rw [hd] at HD
  have hT := fun wx (hu : Upd (fun _ => False) w wx) => rtop_any (h.still hu) hok
  obtain ⟨A, c, rfl, hs⟩ := h
  obtain ⟨k0, k1, k2⟩ := hok
  have HT := Lib.hid hT
  clear hT k2 hs hd
  generalize L.length = n at *
  go_enter Try.func14, Try.ntmps14
  go_wp2_with fail
  refine (HD.out _).mono ?_
  rintro e w' ⟨rfl, rfl⟩
  go_wp2_with fail
  refine (HT.out _ (((Upd.refl _ _).alloc _).alloc _)).mono ?_
  rintro e w1 ⟨rfl, hu⟩
  have hbx : ∀ i, w1.cell? ⟨w.heap.size, i, none⟩ = (#[Value.int .u64 (low : Int), .slice A n c])[i]? := fun i => (((Blk.new w 36 #[.int .u64 (low : Int), .slice A n c]).alloc _).upd hu id).cell i
  have hb0 := hbx 0
  have hb1 := hbx 1
  simp only [List.getElem?_toArray, List.getElem?_cons_zero, List.getElem?_cons_succ] at hb0 hb1
  have HR := Lib.hid ((Blk.newAt (w.alloc (.cells #[.int .u64 (low : Int), .slice A n c] 36)) (g := w.heap.size + 1) 36 #[.int .u64 0, .slice none 0 0] (by simp)).upd hu id)
  have hr0 : w1.frozen? ⟨w.heap.size + 1, 0, none⟩ = false := HR.out.frozen 0
  have hr1 : w1.frozen? ⟨w.heap.size + 1, 1, none⟩ = false := HR.out.frozen 1
  have hr2 : w1.cell? ⟨w.heap.size + 1, 0, none⟩ = some (.int .u64 0) := HR.out.cell 0
  have hr3 : w1.cell? ⟨w.heap.size + 1, 1, none⟩ = some (.slice none 0 0) := HR.out.cell 1
  have HU := Lib.hid hu
  clear hu hbx
  go_wp2_with fail
  have hB := (HR.out.set_ 0 (.int .u64 (low : Int))).set_ 1 (.slice A n c)
  have q0 := hB.cell 0
  have q1 := hB.cell 1
  simp at q0 q1
  refine bodyPost_ret (v := .tuple #[.agg #[.int .u64 (low : Int), .slice A n c], .int .i64 7]) (by simp [results, Try.results14, go_sem, q0, q1]) rfl ⟨rfl, ?_⟩
  exact (((((Upd.refl (fun _ => False) w).alloc _).alloc _).trans HU.out (fun _ _ h => h)).setCell (.inr (by simp)) _).setCell (.inr (by simp)) _

set_option maxRecDepth 100000 in
set_option maxHeartbeats 4000000 in
theorem rpush_ok {w : World} {G : Nat → Prop} {v : Value} {low : Nat} {L : List Int} (h : RCh w G v low L) (hok : ChnOk low L) (s : Int) (hd : dirB s = true) (hf : low + L.length ≤ 4611686018427387904) (hl : L.length ≤ 1000) :
    Calls Try.prog 14 #[v, .int .u8 s] w fun e w' => ∃ v', e = .returned (.tuple #[v', .int .i64 0]) ∧ RNew w v' low (L ++ [s]) w' := by
  have HD := Lib.hid (fun wx => rdir_any s wx)
  rw [hd] at HD
  have hT := fun wx (hu : Upd (fun _ => False) w wx) => rtop_any (h.still hu) hok
  obtain ⟨A, c, rfl, hs⟩ := h
  obtain ⟨k0, k1, k2⟩ := hok
  obtain ⟨i0, hi0, hz0, hz1, hz2⟩ := info_parts infoU8
  have oL := ones_one .u8 L
  have HS := Lib.hid (fun wx (hu : Upd (fun _ => False) w wx) => hs.upd hu (fun _ _ h => h))
  have HT := Lib.hid hT
  have HLL : Hid (((L ++ [s]).map (Value.int .u8)) = L.map (Value.int .u8) ++ [.int .u8 s]) := List.map_append
  have HLN : Hid ((L ++ [s]).length = L.length + 1) := by show _ = _; simp
  clear hT k2 hs hd
  generalize L.map (Value.int .u8) = xs at *
  generalize L.length = n at *
  go_enter Try.func14, Try.ntmps14
  go_wp2_with fail
  refine (HD.out _).mono ?_
  rintro e w' ⟨rfl, rfl⟩
  go_wp2_with fail
  refine (HT.out _ (((Upd.refl _ _).alloc _).alloc _)).mono ?_
  rintro e w1 ⟨rfl, hu⟩
  have HX := Lib.hid (((Blk.new w 36 #[.int .u64 (low : Int), .slice A n c]).alloc (.cells #[.int .u64 0, .slice none 0 0] 36)).upd hu id)
  have HR := Lib.hid ((Blk.newAt (w.alloc (.cells #[.int .u64 (low : Int), .slice A n c] 36)) (g := w.heap.size + 1) 36 #[.int .u64 0, .slice none 0 0] (by simp)).upd hu id)
  have hb0 : w1.cell? ⟨w.heap.size, 0, none⟩ = some (.int .u64 (low : Int)) := HX.out.cell 0
  have hb1 : w1.cell? ⟨w.heap.size, 1, none⟩ = some (.slice A n c) := HX.out.cell 1
  have HU := Lib.hid ((((Upd.refl (fun _ => False) w).alloc _).alloc _).trans hu (fun _ _ h => h))
  have hsz : w.heap.size + 2 ≤ w1.heap.size := by have := hu.size; simpa using this
  clear hu
  go_wp2_with fail
  have HK : Hid (∀ wx, Upd (fun k => k = w.heap.size + 1) w1 wx → wx.cell? ⟨w.heap.size, 0, none⟩ = some (.int .u64 (low : Int)) ∧ wx.cell? ⟨w.heap.size, 1, none⟩ = some (.slice A n c)) := fun wx hu => ⟨(hu.cell (p := ⟨w.heap.size, 0, none⟩) (by show w.heap.size < _; omega) (by simp)).trans hb0, (hu.cell (p := ⟨w.heap.size, 1, none⟩) (by show w.heap.size < _; omega) (by simp)).trans hb1⟩
  go_region_held3 (fun wx => wx.cell? ⟨w.heap.size, 0, none⟩ = some (.int .u64 (low : Int)) ∧ wx.cell? ⟨w.heap.size, 1, none⟩ = some (.slice A n c))
    (first
      | exact HK.out _ (Upd.refl _ _).drew
      | exact HK.out _ ((Upd.refl _ _).drew.alloc _)
      | exact HK.out _ ((Upd.refl _ _).alloc _).drew
      | exact HK.out _ (u2.mono (fun _ _ h => h.elim))
      | exact HK.out _ ((u2.mono (fun _ _ h => h.elim)).alloc _)
      | exact HK.out _ (u3.mono (fun _ _ h => h.elim))
      | exact HK.out _ (Upd.setCell (F := fun k => k = w.heap.size + 1) (Upd.setCell (F := fun k => k = w.heap.size + 1) (u3.mono (fun _ _ h => h.elim)) (p := ⟨w.heap.size + 1, 0, none⟩) (.inl rfl) _) (p := ⟨w.heap.size + 1, 1, none⟩) (.inl rfl) _))
    (first
      | (refine step_append_sl _ (by rfl) (.const (.slice none 0 0)) (.tmp 17) _ (by rfl) 5 i0 (.int .u8 0) 1 1 Try.underlying22 hi0 hz0 hz1 hz2 rfl (by omega) (.slice none 0 0) 0 [] (by rfl) (World.ownsRow_nil _ _ _ _) _ _ n xs (by rfl) (HS.out _ (by first | exact HU.out.trans (Upd.refl _ _).drew (fun _ _ h => h) | exact HU.out.trans ((Upd.refl _ _).alloc _).drew (fun _ _ h => h) | exact HU.out.trans ((Upd.refl _ _).drew.alloc _) (fun _ _ h => h))) oL (by simp only [maxLen]; omega) (by omega) ?_
         intro v2 w2 hown2 hg2 hat2
         simp only [Nat.zero_add, List.nil_append] at hown2
         have u2 : Upd (fun _ => False) w1 w2 := by first | exact (Upd.refl _ _).drew.grown hg2 (fun k hk => (no_own_nil k hk).elim) | exact ((Upd.refl _ _).alloc _).drew.grown hg2 (fun k hk => (no_own_nil k hk).elim) | exact ((Upd.refl _ _).drew.alloc _).grown hg2 (fun k hk => (no_own_nil k hk).elim)
         have hk2 := hat_new hat2
         obtain ⟨A2, c2, rfl, _, _⟩ := own_shape hown2
         have HO2 := Lib.hid hown2
         have HG2 := Lib.hid hg2
         have HK2 := Lib.hid hk2
         clear hown2 hg2 hat2 hk2)
      | (refine step_append_sl _ (by rfl) (.tmp 18) (.tmp 20) _ (by rfl) 5 i0 (.int .u8 0) 1 1 Try.underlying22 hi0 hz0 hz1 hz2 rfl (by omega) (.slice A2 n c2) n xs (by rfl) (by first | exact HO2.out.alloc _ | exact HO2.out) _ _ 1 [.int .u8 s] (by rfl) (by first | exact Sl.one _ _ _ | exact (Sl.one _ _ _).keep HG2.out.size (fun k hk _ => HG2.out.block k hk (by simp [Value.ownBlock]))) (by simp [Value.oneCell']) (by simp only [maxLen]; omega) (by omega) ?_
         intro v3 w3 hown3 hg3 hat3
         obtain ⟨A3, c3, rfl, _, _⟩ := own_shape hown3
         have hlo2 : ∀ k, Value.ownBlock (.slice A2 n c2) = some k → w1.heap.size ≤ k := fun k hk => by have := HK2.out k hk; simp at this; omega
         have u3 : Upd (fun _ => False) w1 w3 := by first | exact (u2.alloc _).grown hg3 (fun k hk => .inr (hlo2 k hk)) | exact u2.grown hg3 (fun k hk => .inr (hlo2 k hk))
         have hlo3 : ∀ k, Value.ownBlock (.slice A3 (n + 1) c3) = some k → w1.heap.size ≤ k := fun k hk => by
           rcases hat3 with h | h
           · rw [h] at hk; exact hlo2 k hk
           · rw [h] at hk; have := u2.size; simp at hk; omega
         have HO3 := Lib.hid hown3
         have HL3 := Lib.hid hlo3
         have HRR := Lib.hid (HR.out.upd u3 id)
         have r0 : w3.frozen? ⟨w.heap.size + 1, 0, none⟩ = false := HRR.out.frozen 0
         have r1 : w3.frozen? ⟨w.heap.size + 1, 1, none⟩ = false := HRR.out.frozen 1
         have r2 : w3.cell? ⟨w.heap.size + 1, 0, none⟩ = some (.int .u64 0) := HRR.out.cell 0
         have r3 : w3.cell? ⟨w.heap.size + 1, 1, none⟩ = some (.slice none 0 0) := HRR.out.cell 1
         clear hown3 hg3 hat3 hlo2 hlo3))
  all_goals
    go_wp2
    have hB := (HRR.out.set_ 0 (.int .u64 (low : Int))).set_ 1 (.slice A3 (n + 1) c3)
    have q0 := hB.cell 0
    have q1 := hB.cell 1
    simp at q0 q1
    refine bodyPost_ret (v := .tuple #[.agg #[.int .u64 (low : Int), .slice A3 (n + 1) c3], .int .i64 0]) (by simp [results, Try.results14, go_sem, q0, q1]) rfl ⟨_, rfl, ((HU.out.trans u3 (fun _ _ h => h)).setCell (.inr (by simp)) _).setCell (.inr (by simp)) _, A3, c3, by rw [HLN.out], ?_⟩
    rw [HLL.out, HLN.out]
    have hs3 := (Sl.own HO3.out).more (G := fun k => w.heap.size + 2 ≤ k ∧ k < w3.heap.size) (fun k hk => ⟨by have := HL3.out k hk; omega, (HO3.out.lt k hk).2⟩)
    refine ((hs3.upd (G := fun k => k = w.heap.size + 1) (Upd.setCell (F := fun k => k = w.heap.size + 1) (Upd.setCell (F := fun k => k = w.heap.size + 1) (Upd.refl _ _) (p := ⟨w.heap.size + 1, 0, none⟩) (.inl rfl) _) (p := ⟨w.heap.size + 1, 1, none⟩) (.inl rfl) _) (fun k hk h => by omega)).more (fun k hk => ⟨by omega, ?_⟩))
    simpa [World.setCell] using hk.2
end Go.Proofs.Ytkcehpnppfmfnaa
