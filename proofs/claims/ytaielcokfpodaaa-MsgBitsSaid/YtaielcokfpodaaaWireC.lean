/-
  Layer 1, what puts numbers and texts behind bytes. Conditions: a row of the caller's own, at most 10^9 bytes.
-/
import Derived.Test.YtaielcokfpodaaaWireB
import Derived.Test.YtaielcokfpodaaaLen64
import Derived.Test.YtaielcokfpodaaaAppStr
namespace Go.Proofs.Ytaielcokfpodaaa
open Go.RowKit

theorem infoB : (Try.prog.info? 5).map (fun i => (i.zero, i.size, i.bytes)) = some (some (.int .u8 0), 1, 1) := by kernel_rfl
/-- A row of bytes of one's own. -/
def Ow (w : World) (v : Value) (l : List Int) : Prop := w.ownsRow 0 5 1 v l.length (l.map (Value.int .u8))
/-- .. behind a call that was handed v: v' holds l; of what was there v's row alone may have changed. -/
def OwTo (w : World) (v : Value) (l : List Int) (w' : World) (v' : Value) : Prop := Ow w' v' l ∧ Upd (fun b => v.ownBlock = some b) w w' ∧ (∀ b, v'.ownBlock = some b → v.ownBlock = some b ∨ w.heap.size ≤ b)
theorem Ow.nil (w : World) : Ow w (.slice none 0 0) [] := World.ownsRow_nil _ _ _ _
theorem Ow.to {w : World} {v : Value} {l : List Int} (h : Ow w v l) : OwTo w v l w v := ⟨h, Upd.refl _ _, fun _ h => .inl h⟩
theorem OwTo.trans {w w1 w2 : World} {v v1 v2 : Value} {l m : List Int} (h : OwTo w v l w1 v1) (k : OwTo w1 v1 m w2 v2) : OwTo w v m w2 v2 :=
  ⟨k.1, h.2.1.trans k.2.1 (fun i hi hb => by rcases h.2.2 i hb with h' | h'; exact h'; omega), fun b hb => by
    rcases k.2.2 b hb with h' | h'
    · exact h.2.2 b h'
    · exact .inr (Nat.le_trans h.2.1.size h')⟩
theorem Ow.upd {w w' : World} {v : Value} {l : List Int} {F : Nat → Prop} (h : Ow w v l) (hu : Upd F w w') (hd : ∀ b, v.ownBlock = some b → ¬ F b) : Ow w' v l := own_upd h hu hd
theorem Ow.still {w w' : World} {v : Value} {l : List Int} (h : Ow w v l) (hu : Upd (fun _ => False) w w') : OwTo w v l w' v := ⟨own_upd h hu (fun _ _ => id), hu.mono (fun _ _ h => h.elim), fun _ h => .inl h⟩
theorem Ow.shape {w : World} {v : Value} {l : List Int} (h : Ow w v l) : ∃ A c, v = .slice A l.length c ∧ l.length ≤ c ∧ c ≤ maxLen := by
  rcases h.2 with ⟨rfl, hx⟩ | ⟨g, cap, cur, rfl, _, _, hnc, hcm, _⟩
  · have : l.length = 0 := by simpa using hx
    exact ⟨none, 0, by rw [this], by omega, by simp [maxLen]⟩
  · exact ⟨_, cap, rfl, hnc, hcm⟩
theorem OwTo.app {w w1 w2 : World} {v v1 v2 : Value} {l m : List Int} (h : OwTo w v l w1 v1) (ho : w2.ownsRow 0 5 1 v2 (l.length + m.length) (l.map (Value.int .u8) ++ m.map (Value.int .u8))) (hg : w1.grownBy w2 v1.ownBlock) (hat : v2.ownBlock = v1.ownBlock ∨ v2.ownBlock = some w1.heap.size) : OwTo w v (l ++ m) w2 v2 := by
  refine ⟨by unfold Ow; rw [List.length_append, List.map_append]; exact ho, h.2.1.grown hg (fun k hk => h.2.2 k hk), fun b hb => ?_⟩
  rcases hat with h' | h'
  · rw [h'] at hb; exact h.2.2 b hb
  · rw [h'] at hb
    have := Option.some.inj hb
    have := h.2.1.size
    exact .inr (by omega)

set_option maxRecDepth 100000 in
set_option maxHeartbeats 4000000 in
theorem wnum_any {w : World} {v : Value} {l : List Int} (h : Ow w v l) (n : Nat) (hn : n < 18446744073709551616) (hl : l.length ≤ 1000000000) :
    Calls Try.prog 32 #[v, .int .u64 (n : Int)] w fun e w' => ∃ v', e = .returned v' ∧ OwTo w v (l ++ numE n) w' v' := by
  obtain ⟨i0, hi0, hz0, hz1, hz2⟩ := info_parts infoB
  obtain ⟨A, c, rfl, hnc, hcm⟩ := h.shape
  have HO := Lib.hid h
  clear h
  unfold maxLen at hcm
  by_cases h248 : n < 248
  · have hE : Hid (numE n = [(n : Int)]) := by show _ = _; unfold numE; rw [if_pos h248]
    have hi : (n : Int) < 248 := by omega
    clear h248
    go_enter Try.func32, Try.ntmps32
    go_wp2_with (first
      | (at_builtin
         go_must (refine wpList_append_sl _ rfl (.tmp 9) (.tmp 12) _ rfl 5 i0 (.int .u8 0) 1 1 Try.underlying23 hi0 hz0 hz1 hz2 rfl (by omega) (.slice A l.length c) l.length (l.map (Value.int .u8)) rfl (HO.out.alloc _) _ _ 1 [.int .u8 (n : Int)] rfl (Sl.one _ _ _) (by simp [Value.oneCell']) (by simp only [maxLen]; omega) (by omega) ?_)
         intro v1 w1 hown1 hg1 hat1))
    go_ret
    refine ⟨_, rfl, ?_⟩
    rw [hE.out]
    exact OwTo.app (m := [(n : Int)]) (HO.out.still ((Upd.refl _ _).alloc _)) hown1 hg1 hat1
  · obtain ⟨K, hK⟩ : ∃ K, K = nk n := ⟨_, rfl⟩
    have hKb := nk_bd n
    rw [← hK] at hKb
    have hE : Hid (numE n = (247 + (K : Int)) :: digs K n) := by show _ = _; unfold numE; rw [if_neg h248, hK]
    have HL := Lib.hid (fun wx => len64_any (n : Int) wx (by omega) (by omega))
    rw [Int.toNat_natCast, ← hK] at HL
    have hi : ¬ ((n : Int) < 248) := by omega
    have hi' : decide ((n : Int) < 248) = false := decide_eq_false hi
    clear h248 hK hi
    go_enter Try.func32, Try.ntmps32
    go_wp2_with fail
    refine (HL.out _).mono ?_
    rintro e w' ⟨⟨m, rfl, hm, hm64⟩, rfl⟩
    have hm' : (m + 7 : Int) / 8 = (K : Int) := by omega
    go_wp2_with (first
      | (at_builtin
         go_must (refine wpList_append_sl _ rfl (.tmp 18) (.tmp 22) _ rfl 5 i0 (.int .u8 0) 1 1 Try.underlying23 hi0 hz0 hz1 hz2 rfl (by omega) (.slice A l.length c) l.length (l.map (Value.int .u8)) rfl (HO.out.alloc _) _ _ 1 [.int .u8 (247 + (K : Int))] rfl (Sl.one _ _ _) (by simp [Value.oneCell']) (by simp only [maxLen]; omega) (by omega) ?_)
         intro v1 w1 hown1 hg1 hat1))
    have HW : Hid (OwTo w (.slice A l.length c) (l ++ [247 + (K : Int)]) w1 v1) := OwTo.app (m := [247 + (K : Int)]) (HO.out.still ((Upd.refl _ _).alloc _)) hown1 hg1 hat1
    clear hown1 hg1 hat1 HL hm'
    go_loopw [0, 6] (fun v i wr => ∃ j : Nat, j ≤ K ∧ i = .int .i64 ((K : Int) - 1 - (j : Int)) ∧ OwTo w (.slice A l.length c) (l ++ [247 + (K : Int)] ++ digs j (n / 256 ^ (K - j))) wr v) (fun _ i _ => (intOf i + 1).toNat)
    case atStart => exact ⟨0, Nat.zero_le _, by simp, by simpa [digs] using HW.out⟩
    case round =>
      obtain ⟨j, hj, rfl, how⟩ := hrel
      by_cases hlt : j < K
      · obtain ⟨A2, c2, rfl, hnc2, hcm2⟩ := how.1.shape
        have HO2 := Lib.hid how
        have hdl := digs_len j (n / 256 ^ (K - j))
        have hsn : Hid (digs (j + 1) (n / 256 ^ (K - (j + 1))) = digs j (n / 256 ^ (K - j)) ++ [((n / 256 ^ (K - (j + 1)) % 256 : Nat) : Int)]) := by
          show _ = _
          rw [digs, Nat.div_div_eq_div_mul, ← Nat.pow_succ, show (K - (j + 1)).succ = K - j by omega]
        have hge : (0 : Int) ≤ (K : Int) - 1 - (j : Int) := by omega
        clear how
        generalize hM : l ++ [247 + (K : Int)] ++ digs j (n / 256 ^ (K - j)) = M at *
        have HM := Lib.hid hM
        have hMl : M.length ≤ 1000000020 := by rw [← hM]; simp [hdl]; omega
        have hval : (n : Int) / 2 ^ (8 * (K - 1 - j)) % 256 = ((n / 256 ^ (K - (j + 1)) % 256 : Nat) : Int) := by
          rw [Int.pow_mul, show (2 : Int) ^ 8 = 256 from rfl, pow256, show K - 1 - j = K - (j + 1) by omega]
          omega
        have HV := Lib.hid hval
        clear hM hval
        go_wp2_with (first
          | (at_builtin
             go_must (refine wpList_append_sl _ rfl (.tmp 30) (.tmp 36) _ rfl 5 i0 (.int .u8 0) 1 1 Try.underlying23 hi0 hz0 hz1 hz2 rfl (by omega) (.slice A2 M.length c2) M.length (M.map (Value.int .u8)) rfl (HO2.out.1.alloc _) _ _ 1 [.int .u8 ((n : Int) / 2 ^ (8 * (K - 1 - j)) % 256)] rfl (Sl.one _ _ _) (by simp [Value.oneCell']) (by simp only [maxLen]; omega) (by omega) ?_)
             intro v2 w2 hown2 hg2 hat2))
        go_roundw
        case rel =>
          refine ⟨j + 1, by omega, by go_num, ?_⟩
          rw [hsn.out, ← List.append_assoc, HM.out]
          rw [HV.out] at hown2
          exact OwTo.app (m := [((n / 256 ^ (K - (j + 1)) % 256 : Nat) : Int)]) (HO2.out.trans (HO2.out.1.still ((Upd.refl _ _).alloc _))) hown2 hg2 hat2
        case measure => simp [intOf]; omega
      · have hjK : j = K := by omega
        subst hjK
        rw [Nat.sub_self, Nat.pow_zero, Nat.div_one, List.append_assoc] at how
        have HO2 := Lib.hid how
        have hneg : decide ((0 : Int) ≤ (j : Int) - 1 - (j : Int)) = false := decide_eq_false (by omega)
        clear how
        go_wp2_with fail
        go_ret
        exact ⟨_, rfl, by rw [hE.out]; exact HO2.out⟩

theorem wstr_any {w : World} {v : Value} {l : List Int} (h : Ow w v l) (s : ByteArray) (hs : s.size ≤ 1000000000) (hl : l.length ≤ 1000000000) :
    Calls Try.prog 54 #[v, .string s] w fun e w' => ∃ v', e = .returned v' ∧ OwTo w v (l ++ numE s.size ++ nums s) w' v' := by
  obtain ⟨i0, hi0, hz0, hz1, hz2⟩ := info_parts infoB
  have HN := Lib.hid (wnum_any h s.size (by omega) hl)
  have hz : (s.size : Int) ≤ 1000000000 := by omega
  obtain ⟨A, c, rfl, hnc, hcm⟩ := h.shape
  have hE := numE_len s.size
  have hnl := nums_length s
  clear h
  go_enter Try.func54, Try.ntmps54
  go_wp2_with fail
  refine HN.out.mono ?_
  rintro e w1 ⟨v1, rfl, ho⟩
  have hle : (l ++ numE s.size).length ≤ 1000000009 := by rw [List.length_append]; omega
  have HO := Lib.hid ho
  obtain ⟨A1, c1, rfl, _, _⟩ := ho.1.shape
  clear ho
  generalize hM : l ++ numE s.size = M at *
  go_wp2_with (first
    | (at_builtin
       go_must (refine wpList_append_str _ rfl (.tmp 9) (.tmp 10) _ _ rfl 5 i0 Try.underlying23 Try.underlying9 hi0 hz0 hz1 hz2 (.slice A1 M.length c1) M.length (M.map (Value.int .u8)) rfl HO.out.1 s rfl (by simp only [maxLen]; omega) (by omega) ?_)
       intro v2 w2 hown2 hg2 hat2))
  go_ret
  refine ⟨_, rfl, ?_⟩
  rw [← hnl] at hown2
  rw [hM]
  exact OwTo.app HO.out hown2 hg2 hat2
end Go.Proofs.Ytaielcokfpodaaa
