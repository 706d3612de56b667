/-
  Layer 7, ballots: checked, put, taken. Conditions: a row of the caller's own; a reader of at most 10^12 bytes.
-/
import Derived.Test.YtaielcokfpodaaaMsgP
import Derived.Deep.RegionHeld3
import Derived.Deep.RegionLaw
namespace Go.Proofs.Ytaielcokfpodaaa
open Go.RowKit

def balE (n r : Int) : Int := if balB n r then 0 else 2
def balV (n r : Int) : Value := .agg #[.int .u64 n, .int .u8 r]

theorem bcheck_any (n r : Int) (w : World) :
    Calls Try.prog 102 #[balV n r] w fun e w' => e = .returned (.int .i64 (balE n r)) ∧ Upd (fun _ => False) w w' := by
  unfold balV
  by_cases hn : n = 0
  · subst hn
    by_cases hr : r = 0
    · subst hr
      rw [show balE 0 0 = 0 from by decide]
      go_enter Try.func102, Try.ntmps102
      go_wp2_with fail
      go_ret
      exact ⟨rfl, (Upd.refl _ _).alloc _⟩
    · rw [show balE 0 r = 2 from by unfold balE balB; rw [decide_eq_false (by omega)]; rfl]
      have hr' : (r == 0) = false := beq_eq_false_iff_ne.2 hr
      clear hr
      go_enter Try.func102, Try.ntmps102
      go_wp2_with fail
      go_ret
      exact ⟨rfl, (Upd.refl _ _).alloc _⟩
  · have hn' : (n == 0) = false := beq_eq_false_iff_ne.2 hn
    by_cases hr : r < 7
    · rw [show balE n r = 0 from by unfold balE balB; rw [decide_eq_true (by omega)]; rfl]
      have hr' : decide ((7 : Int) ≤ r) = false := decide_eq_false (by omega)
      clear hr hn
      go_enter Try.func102, Try.ntmps102
      go_wp2_with fail
      go_ret
      exact ⟨rfl, (Upd.refl _ _).alloc _⟩
    · rw [show balE n r = 2 from by unfold balE balB; rw [decide_eq_false (by omega)]; rfl]
      have hr' : (7 : Int) ≤ r := by omega
      clear hr hn
      go_enter Try.func102, Try.ntmps102
      go_wp2_with fail
      go_ret
      exact ⟨rfl, (Upd.refl _ _).alloc _⟩

set_option maxRecDepth 100000 in
set_option maxHeartbeats 4000000 in
theorem bput_any {w : World} {v : Value} {l : List Int} (h : Ow w v l) (n : Nat) (hn : n < 18446744073709551616) (r : Int) (hl : l.length ≤ 100000000) :
    Calls Try.prog 64 #[v, balV n r] w fun e w' => ∃ v', e = .returned v' ∧ OwTo w v (l ++ numE n ++ [r]) w' v' := by
  obtain ⟨i0, hi0, hz0, hz1, hz2⟩ := info_parts infoB
  have HN := Lib.hid (fun (wx : World) (hx : Ow wx v l) => wnum_any hx n hn (by omega))
  have hE := numE_len n
  have hln : (l ++ numE n).length ≤ 100000010 := by rw [List.length_append]; omega
  have HO := Lib.hid h
  obtain ⟨A, c, rfl, hnc, hcm⟩ := h.shape
  clear h hn
  generalize l ++ numE n = M at *
  unfold balV
  go_enter Try.func64, Try.ntmps64
  go_wp2_with fail
  obtain ⟨w0, hw0⟩ : ∃ w0, w0 = w.alloc (.cells #[.int .u64 (n : Int), .int .u8 r] 25) := ⟨_, rfl⟩
  have hu0 : Upd (fun _ => False) w w0 := by rw [hw0]; exact (Upd.refl _ _).alloc _
  have hbk : Blk w0 w.heap.size 25 #[.int .u64 (n : Int), .int .u8 r] := by rw [hw0]; exact Blk.new _ _ _
  rw [← hw0]
  have HU0 := Lib.hid (HO.out.still hu0)
  have KS : Hid (∀ wx, Upd (fun b => Value.ownBlock (.slice A l.length c) = some b) w0 wx → wx.cell? ⟨w.heap.size, 0, none⟩ = some (.int .u64 (n : Int)) ∧ wx.cell? ⟨w.heap.size, 1, none⟩ = some (.int .u8 r)) := fun wx hu => by
    have hd : ¬ Value.ownBlock (.slice A l.length c) = some w.heap.size := fun e => by have := (HO.out.lt _ e).2; omega
    exact ⟨(hu.cell (p := ⟨w.heap.size, 0, none⟩) hbk.lt hd).trans (hbk.cell 0), (hu.cell (p := ⟨w.heap.size, 1, none⟩) hbk.lt hd).trans (hbk.cell 1)⟩
  have c0 := (KS.out w0 (Upd.refl _ _)).1
  have c1 := (KS.out w0 (Upd.refl _ _)).2
  clear hw0 hu0 hbk
  go_region_held3 (fun wx => wx.cell? ⟨w.heap.size, 0, none⟩ = some (.int .u64 (n : Int)) ∧ wx.cell? ⟨w.heap.size, 1, none⟩ = some (.int .u8 r))
    (first
      | exact KS.out _ (Upd.refl _ _)
      | exact KS.out _ (Upd.refl _ _).drew
      | exact KS.out _ ((Upd.refl _ _).drew.alloc _)
      | exact KS.out _ ((Upd.refl _ _).alloc _).drew
      | exact KS.out _ HB1.out
      | exact KS.out _ (HB1.out.alloc _)
      | exact KS.out _ HB2.out)
    (first
      | (go_at_call 32
         refine (HN.out _ (by first | exact HU0.out.1 | exact (HU0.out.1.still ((Upd.refl _ _).alloc _).drew).1)).mono ?_
         rintro e w1 ⟨v1, rfl, ho1⟩
         obtain ⟨A1, c1, rfl, _, _⟩ := ho1.1.shape
         have HB1 : Hid (Upd (fun b => Value.ownBlock (.slice A l.length c) = some b) w0 w1) := by first | exact (Upd.refl _ _).drew.trans ho1.2.1 (fun _ _ h => h) | exact ((Upd.refl _ _).alloc _).drew.trans ho1.2.1 (fun _ _ h => h)
         have HO1 : Hid (OwTo w0 (.slice A l.length c) M w1 (.slice A1 M.length c1)) := by first | exact (HU0.out.1.still (Upd.refl _ _).drew).trans ho1 | exact (HU0.out.1.still ((Upd.refl _ _).alloc _).drew).trans ho1
         have HQ1 := Lib.hid ho1.2.1
         clear ho1)
      | (refine step_append_sl _ (by rfl) (.tmp 8) (.tmp 11) _ (by rfl) 5 i0 (.int .u8 0) 1 1 Try.underlying23 hi0 hz0 hz1 hz2 rfl (by omega) (.slice A1 M.length c1) M.length (M.map (Value.int .u8)) (by rfl) (by first | exact HO1.out.1 | exact (HO1.out.1.still ((Upd.refl _ _).alloc _)).1) _ _ 1 [.int .u8 r] (by rfl) (by first | exact Sl.one _ _ _ | exact Sl.upd (w := (w0.alloc (.cells #[.int .u8 r] 5)).drew) (Sl.one w0 (.int .u8 r) 5) HQ1.out (fun k hk h => by have := (HU0.out.1.lt k h).2; omega)) (by simp [Value.oneCell']) (by simp only [maxLen]; omega) (by omega) ?_
         intro v2 w2 hown2 hg2 hat2
         have HB2 : Hid (Upd (fun b => Value.ownBlock (.slice A l.length c) = some b) w0 w2) := by
           have hh := HO1.out.2.2
           first
           | exact (HB1.out.alloc _).grown hg2 hh
           | exact HB1.out.grown hg2 hh
         have HO2 : Hid (OwTo w0 (.slice A l.length c) (M ++ [r]) w2 v2) := by first | exact OwTo.app (m := [r]) (HO1.out.trans (HO1.out.1.still ((Upd.refl _ _).alloc _))) hown2 hg2 hat2 | exact OwTo.app (m := [r]) HO1.out hown2 hg2 hat2
         clear hown2 hg2 hat2)
      | fail)
  all_goals
    go_wp2_with fail
    go_ret
    exact ⟨_, rfl, HU0.out.trans HO2.out⟩
end Go.Proofs.Ytaielcokfpodaaa
