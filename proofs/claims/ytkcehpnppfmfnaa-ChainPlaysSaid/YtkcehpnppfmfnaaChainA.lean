/-
  Package chain, the reading calls: what each answers of a chain that lies in memory. Conditions: the chain's numbers lie within the document's bounds.
-/
import Derived.Test.YtkcehpnppfmfnaaRows
import Derived.Test.YtkcehpnppfmfnaaBase
import Derived.Test.YtkcehpnppfmfnaaBits
import Derived.Deep.QuietTactic
import Derived.BigQuiet
namespace Go.Proofs.Ytkcehpnppfmfnaa
open Go.RowKit

/-- Is a set a directory? -/
def dirB (s : Int) : Bool := decide (0 < s ∧ s < 128)
theorem dirB_true {s : Int} (h : dirB s = true) : 0 < s ∧ s < 128 := by simpa [dirB] using h
theorem dirB_false {s : Int} (h : dirB s = false) : ¬ (0 < s ∧ s < 128) := by simpa [dirB] using h

def pop8 (n : Int) : Int := ((Lib.onesCount n.toNat : Nat) : Int)
theorem and127 : ∀ s : Fin 256, bits .and .u8 (s.val : Int) 127 = (s.val : Int) % 128 := by decide +kernel
theorem or0 : ∀ s : Fin 256, bits .or .u8 (s.val : Int) 0 = (s.val : Int) := by decide +kernel
theorem pop_fin : ∀ s : Fin 256, 0 ≤ pop8 (s.val : Int) ∧ pop8 (s.val : Int) ≤ 8 ∧ (0 < pop8 (s.val : Int) ↔ 0 < (s.val : Int)) := by decide +kernel
theorem fin_of {s : Int} (h0 : 0 ≤ s) (h1 : s ≤ 255) : ∃ t : Fin 256, s = (t.val : Int) := ⟨⟨s.toNat, by omega⟩, by simp; omega⟩
theorem and127_ {s : Int} (h0 : 0 ≤ s) (h1 : s ≤ 255) : bits .and .u8 s 127 = s % 128 := by obtain ⟨t, rfl⟩ := fin_of h0 h1; exact and127 t
theorem or0_ {s : Int} (h0 : 0 ≤ s) (h1 : s ≤ 255) : bits .or .u8 s 0 = s := by obtain ⟨t, rfl⟩ := fin_of h0 h1; exact or0 t
theorem pop_ {s : Int} (h0 : 0 ≤ s) (h1 : s ≤ 255) : 0 ≤ pop8 s ∧ pop8 s ≤ 8 ∧ (0 < pop8 s ↔ 0 < s) := by obtain ⟨t, rfl⟩ := fin_of h0 h1; exact pop_fin t

theorem ones8_any (n : Int) (w : World) (h0 : 0 ≤ n) (h1 : n ≤ 255) :
    Calls Try.prog 39 #[.int .u8 n] w fun e w' => e = .returned (.int .i64 (pop8 n)) ∧ w = w' :=
  (bits_OnesCount8 n w h0 h1).mono fun e w' ⟨he, hw⟩ => ⟨by rw [he, pop8], hw.symm⟩

theorem with_any (m n : Int) (w : World) :
    Calls Try.prog 34 #[.int .u8 m, .int .u8 n] w fun e w' => e = .returned (.int .u8 (bits .and .u8 (bits .or .u8 m n) 127)) ∧ w = w' := by
  go_enter Try.func34, Try.ntmps34
  go_wp2
  go_ret
  exact ⟨rfl, rfl⟩

theorem len_any (s : Int) (w : World) (h0 : 0 ≤ s) (h1 : s ≤ 255) :
    Calls Try.prog 35 #[.int .u8 s] w fun e w' => e = .returned (.int .i64 (pop8 (bits .and .u8 s 127))) ∧ w = w' := by
  have hb : 0 ≤ bits .and .u8 s 127 ∧ bits .and .u8 s 127 ≤ 255 := by rw [and127_ h0 h1]; omega
  go_enter Try.func35, Try.ntmps35
  go_wp2_with fail
  refine (ones8_any _ _ hb.1 hb.2).mono ?_
  rintro e w' ⟨rfl, rfl⟩
  go_wp2_with fail
  go_ret
  exact ⟨rfl, rfl⟩

theorem dir_any (s : Int) (w : World) (h0 : 0 ≤ s) (h1 : s ≤ 255) :
    Calls Try.prog 28 #[.int .u8 s] w fun e w' => e = .returned (.bool (dirB s)) ∧ w = w' := by
  have hl := len_any s w h0 h1
  rw [and127_ h0 h1] at hl
  obtain ⟨p0, p1, p2⟩ := pop_ (s := s % 128) (by omega) (by omega)
  have hw := with_any s 0 w
  rw [or0_ h0 h1, and127_ h0 h1] at hw
  by_cases hz : s % 128 = 0
  · have hp : pop8 (s % 128) = 0 := by omega
    have e1 : dirB s = false := by simp only [dirB]; exact decide_eq_false (by omega)
    rw [hp] at hl
    rw [e1]
    have HL := Lib.hid hl
    clear hl hw p0 p1 p2 hp e1 hz
    go_enter Try.func28, Try.ntmps28
    go_wp2_with fail
    refine HL.out.mono ?_
    rintro e w' ⟨rfl, rfl⟩
    go_wp2_with fail
    go_ret
    exact ⟨rfl, rfl⟩
  · have hp : 0 < pop8 (s % 128) := p2.2 (by omega)
    have e1 : dirB s = (s % 128 == s) := by
      simp only [dirB]
      by_cases h : s < 128
      · rw [decide_eq_true (by omega)]; exact (beq_iff_eq.2 (by omega)).symm
      · rw [decide_eq_false (by omega)]; exact (beq_eq_false_iff_ne.2 (by omega)).symm
    rw [e1]
    have HL := Lib.hid hl
    have HW := Lib.hid hw
    clear hl hw p0 p2 e1 hz
    go_enter Try.func28, Try.ntmps28
    go_wp2_with fail
    refine HL.out.mono ?_
    rintro e w' ⟨rfl, rfl⟩
    go_wp2_with fail
    refine HW.out.mono ?_
    rintro e w' ⟨rfl, rfl⟩
    go_wp2_with fail
    go_ret
    exact ⟨rfl, rfl⟩

/-- The slot whose directory is the configuration of slot n. -/
def bh (n : Int) : Int := if n ≤ 3 then 0 else n - 3
theorem bh_lo {n : Int} (h : n ≤ 3) : bh n = 0 := if_pos h
theorem bh_hi {n : Int} (h : ¬ n ≤ 3) : bh n = n - 3 := if_neg h
theorem behind_any (n : Int) (w : World) (h0 : 0 ≤ n) (h1 : n ≤ 18446744073709551615) :
    Calls Try.prog 27 #[.int .u64 n] w fun e w' => e = .returned (.int .u64 (bh n)) ∧ w = w' := by
  by_cases h : n ≤ 3
  · rw [bh_lo h]
    go_enter Try.func27, Try.ntmps27
    go_wp2
    all_goals
      go_ret
      exact ⟨ret_int (by omega), rfl⟩
  · rw [bh_hi h]
    go_enter Try.func27, Try.ntmps27
    go_wp2
    all_goals
      go_ret
      exact ⟨ret_int (by omega), rfl⟩

/-- A chain in memory: p leads to it; its blocks are F's. -/
def Chn (w : World) (F : Nat → Prop) (p : Value) (low : Nat) (L : List Int) : Prop :=
  ∃ b v, p = .pointer (some ⟨b, 0, none⟩) ∧ F b ∧ Blk w b 58 #[.int .u64 (low : Int), v] ∧ w.ownsRow 0 27 1 v L.length (L.map (Value.int .u8)) ∧ (∀ g, v.ownBlock = some g → F g)
/-- .. with numbers within the document's bounds. -/
def ChnOk (low : Nat) (L : List Int) : Prop := 0 < L.length ∧ low + L.length ≤ 4611686018427387905 ∧ ∀ x ∈ L, 0 < x ∧ x < 128

theorem own_shape {w : World} {e : TypeId} {size : Nat} {v : Value} {n : Nat} {xs : List Value} (h : w.ownsRow 0 e size v n xs) : ∃ A c, v = .slice A n c ∧ n ≤ c ∧ c ≤ maxLen := by
  rcases h.2 with ⟨rfl, rfl⟩ | ⟨g, cap, cur, rfl, _, _, hnc, hcm, _⟩
  · exact ⟨none, 0, rfl, Nat.le_refl _, by simp [maxLen]⟩
  · exact ⟨_, cap, rfl, hnc, hcm⟩

theorem Chn.upd {w w' : World} {F G : Nat → Prop} {p : Value} {low : Nat} {L : List Int} (h : Chn w F p low L) (hu : Upd G w w') (hd : ∀ k, F k → ¬ G k) : Chn w' F p low L := by
  obtain ⟨b, v, rfl, hF, hb, ho, hv⟩ := h
  exact ⟨b, v, rfl, hF, hb.upd hu (hd b hF), own_upd ho hu (fun g hg => hd g (hv g hg)), hv⟩
theorem Chn.more {w : World} {F G : Nat → Prop} {p : Value} {low : Nat} {L : List Int} (h : Chn w F p low L) (hd : ∀ k, F k → G k) : Chn w G p low L := by
  obtain ⟨b, v, rfl, hF, hb, ho, hv⟩ := h
  exact ⟨b, v, rfl, hd _ hF, hb, ho, fun g hg => hd _ (hv g hg)⟩

theorem low_any {w : World} {F : Nat → Prop} {p : Value} {low : Nat} {L : List Int} (h : Chn w F p low L) :
    Calls Try.prog 18 #[p] w fun e w' => e = .returned (.int .u64 (low : Int)) ∧ w = w' := by
  obtain ⟨b, v, rfl, hF, hb, ho, hv⟩ := h
  have h0 : w.cell? ⟨b, 0, none⟩ = some (.int .u64 (low : Int)) := hb.cell 0
  clear hb ho hv
  go_enter Try.func18, Try.ntmps18
  go_wp2
  go_ret
  exact ⟨rfl, rfl⟩

theorem top_any {w : World} {F : Nat → Prop} {p : Value} {low : Nat} {L : List Int} (h : Chn w F p low L) (hok : ChnOk low L) :
    Calls Try.prog 11 #[p] w fun e w' => e = .returned (.int .u64 ((low : Int) + (L.length : Int) - 1)) ∧ ∃ n, w' = w.drewN n := by
  obtain ⟨b, v, rfl, hF, hb, ho, hv⟩ := h
  obtain ⟨A, c, rfl, hn, hc⟩ := own_shape ho
  obtain ⟨k0, k1, _⟩ := hok
  have h0 : w.cell? ⟨b, 0, none⟩ = some (.int .u64 (low : Int)) := hb.cell 0
  have h1 : w.cell? ⟨b, 1, none⟩ = some (.slice A L.length c) := hb.cell 1
  generalize L.length = n at *
  unfold maxLen at hc
  clear hb ho hv
  go_enter Try.func11, Try.ntmps11
  go_wp2_with fail
  go_quiet (fail)
  go_wp2
  go_ret
  exact ⟨rfl, _, rfl⟩

def atB (low : Nat) (L : List Int) (slot : Int) : Bool := decide (slot ≠ 0 ∧ (low : Int) ≤ bh slot ∧ bh slot ≤ (low : Int) + (L.length : Int) - 1)
def atS (low : Nat) (L : List Int) (slot : Int) : Int := if atB low L slot then L.getD (bh slot - (low : Int)).toNat 0 else 0

theorem own_cell {w : World} {e : TypeId} {v : Value} {n j : Nat} {xs : List Value} (h : w.ownsRow 0 e 1 v n xs) (hj : j < n) :
    ∃ g c, v = .slice (some ⟨g, 0, none⟩) n c ∧ n ≤ c ∧ c ≤ maxLen ∧ w.cell? ⟨g, j, none⟩ = xs[j]? := by
  rcases h.2 with ⟨rfl, rfl⟩ | ⟨g, cap, cur, rfl, hb, hg, hnc, hcm, hr⟩
  · omega
  · exact ⟨g, cap, rfl, hnc, hcm, h.cellAt j (by omega)⟩

theorem low_nil (w : World) : Calls Try.prog 18 #[.pointer none] w fun e w' => e = .returned (.int .u64 0) ∧ w = w' := by
  go_enter Try.func18, Try.ntmps18
  go_wp2
  go_ret
  exact ⟨rfl, rfl⟩
theorem top_nil (w : World) : Calls Try.prog 11 #[.pointer none] w fun e w' => e = .returned (.int .u64 0) ∧ w = w' := by
  go_enter Try.func11, Try.ntmps11
  go_wp2
  go_ret
  exact ⟨rfl, rfl⟩

theorem at_nil (slot : Int) (w : World) (h0 : 0 ≤ slot) (h1 : slot ≤ 18446744073709551615) :
    Calls Try.prog 10 #[.pointer none, .int .u64 slot] w fun e w' => e = .returned (.tuple #[.int .u8 0, .bool false]) ∧ w = w' := by
  have hbh := behind_any slot w h0 h1
  generalize bh slot = k at *
  go_enter Try.func10, Try.ntmps10
  go_wp2_with fail
  refine hbh.mono ?_
  rintro e w' ⟨rfl, rfl⟩
  clear hbh
  go_wp2_with fail
  go_ret2
  exact ⟨rfl, rfl⟩

set_option maxHeartbeats 1000000 in
theorem at_any {w : World} {F : Nat → Prop} {p : Value} {low : Nat} {L : List Int} (h : Chn w F p low L) (hok : ChnOk low L) (slot : Int) (h0 : 0 ≤ slot) (h1 : slot ≤ 18446744073709551615) :
    Calls Try.prog 10 #[p, .int .u64 slot] w fun e w' => e = .returned (.tuple #[.int .u8 (atS low L slot), .bool (atB low L slot)]) ∧ ∃ n, w' = w.drewN n := by
  have hT := top_any h hok
  have hbh := behind_any slot w h0 h1
  obtain ⟨b, v, rfl, hF, hb, ho, hv⟩ := h
  obtain ⟨k0, k1, k2⟩ := hok
  have c0 : w.cell? ⟨b, 0, none⟩ = some (.int .u64 (low : Int)) := hb.cell 0
  have c1 : w.cell? ⟨b, 1, none⟩ = some v := hb.cell 1
  by_cases hz : slot = 0
  · have e1 : atB low L slot = false := by simp [atB, hz]
    have e2 : atS low L slot = 0 := by simp [atS, e1]
    rw [e1, e2]
    subst hz
    rw [bh_lo (by omega)] at hbh
    clear hb ho hv hT e1 e2 k2
    have HB := Lib.hid hbh
    clear hbh
    go_enter Try.func10, Try.ntmps10
    go_wp2_with fail
    refine HB.out.mono ?_
    rintro e w' ⟨rfl, rfl⟩
    go_wp2_with fail
    go_ret2
    exact ⟨rfl, 0, rfl⟩
  have hzb : (slot == 0) = false := beq_eq_false_iff_ne.2 hz
  have hbr : 0 ≤ bh slot ∧ bh slot ≤ slot := by unfold bh; split <;> omega
  by_cases hlt : bh slot < (low : Int)
  · have e1 : atB low L slot = false := by simp only [atB]; exact decide_eq_false (by omega)
    have e2 : atS low L slot = 0 := by simp [atS, e1]
    rw [e1, e2]
    generalize bh slot = k at *
    clear hb ho hv hT e1 e2 k2
    have HB := Lib.hid hbh
    clear hbh hz
    go_enter Try.func10, Try.ntmps10
    go_wp2_with fail
    refine HB.out.mono ?_
    rintro e w' ⟨rfl, rfl⟩
    go_wp2_with fail
    go_ret2
    exact ⟨rfl, 0, rfl⟩
  by_cases hgt : (low : Int) + (L.length : Int) - 1 < bh slot
  · have e1 : atB low L slot = false := by simp only [atB]; exact decide_eq_false (by omega)
    have e2 : atS low L slot = 0 := by simp [atS, e1]
    rw [e1, e2]
    generalize bh slot = k at *
    generalize L.length = n at *
    clear hb ho hv e1 e2 k2
    have HB := Lib.hid hbh
    have HT := Lib.hid hT
    clear hbh hz hT
    go_enter Try.func10, Try.ntmps10
    go_wp2_with fail
    refine HB.out.mono ?_
    rintro e w' ⟨rfl, rfl⟩
    go_wp2_with fail
    refine HT.out.mono ?_
    rintro e w' ⟨rfl, nq, rfl⟩
    go_wp2_with fail
    go_ret2
    exact ⟨rfl, _, rfl⟩
  · have e1 : atB low L slot = true := by simp only [atB]; exact decide_eq_true (by omega)
    obtain ⟨j, hj⟩ : ∃ j : Nat, bh slot = (low : Int) + (j : Int) := ⟨(bh slot - (low : Int)).toNat, by omega⟩
    have hjl : j < L.length := by omega
    have e2 : atS low L slot = L[j] := by
      simp only [atS, e1, if_true]
      rw [hj, show ((low : Int) + (j : Int) - (low : Int)).toNat = j from by omega]
      simp [hjl]
    rw [e1, e2]
    rw [hj] at hbh
    obtain ⟨g, c, rfl, hlc, hcm, hc⟩ := own_cell ho hjl
    rw [List.getElem?_map, List.getElem?_eq_getElem hjl, Option.map_some] at hc
    obtain ⟨x, hx⟩ : ∃ x, x = L[j] := ⟨_, rfl⟩
    rw [← hx] at hc ⊢
    clear e2 e1 hx k2 hb ho hv
    generalize hn : L.length = n at *
    unfold maxLen at hcm
    have HB := Lib.hid hbh
    have HT := Lib.hid hT
    have j1 : (j : Int) < (n : Int) := by omega
    clear hbh hz hT hn hj hbr
    go_enter Try.func10, Try.ntmps10
    go_wp2_with fail
    refine HB.out.mono ?_
    rintro e w' ⟨rfl, rfl⟩
    go_wp2_with fail
    refine HT.out.mono ?_
    rintro e w' ⟨rfl, nq, rfl⟩
    go_wp2_with fail
    go_quiet (fail)
    go_wp2
    go_ret2
    exact ⟨rfl, _, World.drewN_drewN _ _ _⟩

end Go.Proofs.Ytkcehpnppfmfnaa
