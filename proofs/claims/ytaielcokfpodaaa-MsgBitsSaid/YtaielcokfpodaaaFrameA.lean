/-
  Layer 3: a checksum's bytes; frames are put. Conditions: bytes, at most 10^12 of them.
-/
import Derived.Test.YtaielcokfpodaaaCrc
import Derived.Test.YtaielcokfpodaaaWireC
namespace Go.Proofs.Ytaielcokfpodaaa
open Go.RowKit

/-- The digits of a number to the base 256, the small ones first. -/
def dig (x i : Nat) : Int := ((x / 256 ^ i % 256 : Nat) : Int)
def le8 (x : Nat) : List Int := [dig x 0, dig x 1, dig x 2, dig x 3, dig x 4, dig x 5, dig x 6, dig x 7]
theorem le8_byt (x : Nat) : Byt (le8 x) := by
  intro y hy
  simp [le8, dig] at hy
  omega
def sumB (l : List Int) : List Int := le8 (crcN l)
theorem sumB_byt (l : List Int) : Byt (sumB l) := le8_byt _
theorem sumB_len (l : List Int) : (sumB l).length = 8 := rfl

def cellsK (d : Nat → Int) (k : Nat) : Array Value := ((List.range 8).map fun i => Value.int .u8 (if i < k then d i else 0)).toArray
theorem cellsK_set (d : Nat → Int) (k : Nat) (h : k < 8) : (cellsK d k).setIfInBounds k (.int .u8 (d k)) = cellsK d (k + 1) := by
  match k, h with
  | 0, _ => rfl
  | 1, _ => rfl
  | 2, _ => rfl
  | 3, _ => rfl
  | 4, _ => rfl
  | 5, _ => rfl
  | 6, _ => rfl
  | 7, _ => rfl
theorem cellsK_at (d : Nat → Int) (k : Nat) (h : k < 8) : (cellsK d k)[k]? = some (.int .u8 0) := by
  match k, h with
  | 0, _ => rfl
  | 1, _ => rfl
  | 2, _ => rfl
  | 3, _ => rfl
  | 4, _ => rfl
  | 5, _ => rfl
  | 6, _ => rfl
  | 7, _ => rfl

theorem Sl.of_blk {w : World} {b n : Nat} {t : TypeId} {cs : Array Value} (h : Blk w b t cs) (hn : cs.size = n) (hm : n ≤ maxLen) : Sl w (fun k => k = b) 1 (.slice (some ⟨b, 0, none⟩) n n) n cs.toList :=
  ⟨by simpa using hn, _, n, rfl, Nat.le_refl _, hm, (fun h => by cases h), fun _ => ⟨b, 0, rfl, rfl, h.lt, fun j u hu => by rw [Nat.zero_add, h.cell j]; simpa using hu⟩⟩

set_option maxRecDepth 100000 in
set_option maxHeartbeats 4000000 in
theorem fsum_any (l : List Int) (hb : Byt l) (hl : l.length ≤ 1000000000000) (w : World) :
    Calls Try.prog 33 #[.string (strOfNums l)] w fun e w' => e = .returned (.string (strOfNums (sumB l))) ∧ Upd (fun _ => False) w w' := by
  have HC := Lib.hid (csum_any l hb hl w)
  unfold sumB
  have hlt : crcN l < 18446744073709551616 := by unfold crcN; omega
  generalize crcN l = x at *
  go_enter Try.func33, Try.ntmps33
  go_wp2_with fail
  refine HC.out.mono ?_
  rintro e w' ⟨rfl, rfl⟩
  go_wp2_with fail
  go_loopw [8] (fun i wr => ∃ k : Nat, k ≤ 8 ∧ i = .int .i64 k ∧ Upd (fun _ => False) w wr ∧ Blk wr w.heap.size 100 (cellsK (dig x) k)) (fun i _ => 8 - (intOf i).toNat)
  case atStart => exact ⟨0, by omega, rfl, (Upd.refl _ _).alloc _, Blk.new _ _ _⟩
  case round =>
    obtain ⟨k, hk, rfl, hu, hbk⟩ := hrel
    by_cases hk8 : k < 8
    · have hat : wr.cell? ⟨w.heap.size, k, none⟩ = some (.int .u8 0) := (hbk.cell k).trans (cellsK_at _ _ hk8)
      have hfr : wr.frozen? ⟨w.heap.size, k, none⟩ = false := hbk.frozen k
      have HU := Lib.hid hu
      have HB := Lib.hid hbk
      have hv : (x : Int) / 2 ^ (8 * k) % 256 = dig x k := by
        unfold dig
        rw [Int.pow_mul, show (2 : Int) ^ 8 = 256 from rfl, pow256]
        omega
      clear hu hbk
      have hset := Lib.hid (cellsK_set (dig x) k hk8)
      go_wp2_with fail
      go_roundw
      case rel => exact ⟨k + 1, by omega, by go_num, HU.out.setCell (.inr (Nat.le_refl _)) _, by rw [← hset.out]; exact HB.out.set_ k _⟩
      case measure => simp [intOf]; omega
    · obtain rfl : k = 8 := by omega
      have hsl := Sl.of_blk (n := 8) hbk rfl (by simp [maxLen])
      have hcv := run_string_of_sl (P := Try.prog) (xs := le8 x) 23 9 5 Try.underlying23 Try.underlying5 Try.underlying9 hsl
      have HU := Lib.hid hu
      clear hu hbk hsl
      go_wp2_with fail
      go_ret
      exact ⟨rfl, HU.out⟩

theorem strOf_ne (l : List Int) (h : l ≠ []) : (strOfNums l).toList = Lib.bytesOf l ∧ (Lib.bytesOf l).isEmpty = false := by
  refine ⟨strOf_list l, ?_⟩
  cases l with
  | nil => exact absurd rfl h
  | cons x l => rfl

theorem nums_strOf' (xs : List Int) (h : Byt xs) : nums (strOfNums xs) = xs := by
  unfold nums
  rw [strOfNums_data, List.map_map]
  conv => rhs; rw [← List.map_id xs]
  refine List.map_congr_left fun x hx => ?_
  have := h x hx
  simp only [Function.comp, id, UInt8.toNat_ofNat']
  omega

/-- A frame's bytes. -/
def frameB (l : List Int) : List Int := numE l.length ++ sumB l ++ l
theorem frameB_byt (l : List Int) (h : Byt l) : Byt (frameB l) := ((numE_byt _).app (sumB_byt _)).app h

set_option maxRecDepth 100000 in
set_option maxHeartbeats 4000000 in
theorem fput_bad {w : World} {v : Value} {b : List Int} (h : Ow w v b) (l : List Int) (hb : l = [] ∨ 65536 < l.length) :
    Calls Try.prog 14 #[v, .string (strOfNums l)] w fun e w' => e = .returned (.tuple #[v, .int .i64 6]) ∧ w = w' := by
  obtain ⟨A, c, rfl, hnc, hcm⟩ := h.shape
  have hz : (strOfNums l).size = l.length := strOfNums_size l
  clear h
  by_cases h0 : l = []
  · subst h0
    have hs0 : strOfNums [] = { data := #[] } := strOf_nil
    go_enter Try.func14, Try.ntmps14
    go_wp2_with fail
    go_ret2
    exact ⟨rfl, rfl⟩
  · obtain ⟨hl, hne⟩ := strOf_ne l h0
    have h6 : 65536 < l.length := by
      rcases hb with h | h
      · exact absurd h h0
      · exact h
    clear hb
    generalize l.length = n at *
    generalize strOfNums l = t at *
    have h6' : (65536 : Int) < (n : Int) := by omega
    clear h6
    go_enter Try.func14, Try.ntmps14
    go_wp2_with fail
    go_ret2
    exact ⟨rfl, rfl⟩

set_option maxRecDepth 100000 in
set_option maxHeartbeats 4000000 in
theorem fput_ok {w : World} {v : Value} {b : List Int} (h : Ow w v b) (l : List Int) (hb : Byt l) (h0 : l ≠ []) (h6 : l.length ≤ 65536) (hbl : b.length ≤ 1000000) :
    Calls Try.prog 14 #[v, .string (strOfNums l)] w fun e w' => ∃ v', e = .returned (.tuple #[v', .int .i64 0]) ∧ OwTo w v (b ++ frameB l) w' v' := by
  obtain ⟨i0, hi0, hz0, hz1, hz2⟩ := info_parts infoB
  have HN := Lib.hid (wnum_any h l.length (by omega) (by omega))
  have HS := Lib.hid (fun wx => fsum_any l hb (by omega) wx)
  have hnl := numE_len l.length
  have HSL := Lib.hid (sumB_len l)
  have HSB := Lib.hid (nums_strOf' (sumB l) (sumB_byt l))
  have HLB := Lib.hid (nums_strOf' l hb)
  have hsz : (strOfNums (sumB l)).size = 8 := (strOfNums_size _).trans HSL.out
  have hz : (strOfNums l).size = l.length := strOfNums_size l
  obtain ⟨hl, hne⟩ := strOf_ne l h0
  have HF : Hid (b ++ frameB l = b ++ numE l.length ++ sumB l ++ l) := by show _ = _; simp [frameB]
  obtain ⟨A, c, rfl, hnc, hcm⟩ := h.shape
  clear h h0
  have h6' : (l.length : Int) ≤ 65536 := by omega
  have h6b : decide ((65536 : Int) < (l.length : Int)) = false := decide_eq_false (by omega)
  generalize hsb : sumB l = sb at *
  have HSB2 := Lib.hid hsb
  clear hsb
  generalize strOfNums sb = ss at *
  generalize hst : strOfNums l = st at *
  clear hst
  go_enter Try.func14, Try.ntmps14
  go_wp2_with fail
  refine HN.out.mono ?_
  rintro e w1 ⟨v1, rfl, ho1⟩
  have HO1 := Lib.hid ho1
  have hM : Hid ((b ++ numE l.length).length ≤ 1000009) := by show _ ≤ _; rw [List.length_append]; omega
  obtain ⟨A1, c1, rfl, _, _⟩ := ho1.1.shape
  clear ho1
  have hM1 := hM.out
  obtain ⟨M, HM⟩ : ∃ M, Hid (M = b ++ numE l.length) := ⟨_, rfl⟩
  rw [← HM.out] at HO1 hM1 ⊢
  have hmx1 : M.length + ss.size ≤ maxLen := by simp only [maxLen]; omega
  have hmx2 : M.length + ss.size ≤ 140737488355328 := by omega
  go_wp2_with fail
  refine (HS.out _).mono ?_
  rintro e w2 ⟨rfl, hu2⟩
  have HO2 := Lib.hid (HO1.out.trans (HO1.out.1.still hu2))
  clear hu2
  go_wp2_with (first
    | (at_builtin
       refine wpList_append_str _ rfl (.tmp 19) (.tmp 21) _ _ rfl 5 i0 Try.underlying23 Try.underlying9 hi0 hz0 hz1 hz2 (.slice A1 M.length c1) M.length (M.map (Value.int .u8)) rfl HO2.out.1 ss rfl hmx1 hmx2 ?_
       intro v3 w3 hown3 hg3 hat3
       have ho3 : OwTo w (.slice A b.length c) (M ++ sb) w3 v3 := OwTo.app (m := sb) HO2.out (by rw [HSB.out, hsz, ← HSL.out] at hown3; exact hown3) hg3 hat3
       have HO3 := Lib.hid ho3
       obtain ⟨A3, c3, rfl, _, _⟩ := ho3.1.shape
       clear ho3 hown3 hg3 hat3
       have hM3 : (M ++ sb).length ≤ 1000017 := by rw [List.length_append, HSL.out]; omega
       generalize hMM : M ++ sb = M3 at *
       have HMM := Lib.hid hMM
       clear hMM)
    | (at_builtin
       go_must (refine wpList_append_str _ rfl (.tmp 22) (.tmp 23) _ _ rfl 5 i0 Try.underlying23 Try.underlying9 hi0 hz0 hz1 hz2 (.slice A3 M3.length c3) M3.length (M3.map (Value.int .u8)) rfl HO3.out.1 st rfl (by simp only [maxLen]; omega) (by omega) ?_)
       intro v4 w4 hown4 hg4 hat4))
  go_ret2
  refine ⟨_, rfl, ?_⟩
  rw [HF.out, ← HM.out, HMM.out]
  rw [HLB.out, hz] at hown4
  exact OwTo.app HO3.out hown4 hg4 hat4
end Go.Proofs.Ytaielcokfpodaaa
