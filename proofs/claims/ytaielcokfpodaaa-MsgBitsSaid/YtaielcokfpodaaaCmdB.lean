/-
  Layer 9, commands: put. Conditions: texts of at most 10^8 bytes, a row of at most 10^8 bytes.
-/
import Derived.Test.YtaielcokfpodaaaCmdA
namespace Go.Proofs.Ytaielcokfpodaaa
open Go.RowKit

theorem wstr_of {w : World} {v : Value} {l : List Int} (h : Ow w v l) (x : List Int) (hb : Byt x) (hx : x.length ≤ 1000000000) (hl : l.length ≤ 1000000000) :
    Calls Try.prog 54 #[v, .string (strOfNums x)] w fun e w' => ∃ v', e = .returned v' ∧ OwTo w v (l ++ strBy x) w' v' := by
  have := wstr_any h (strOfNums x) (by rw [strOfNums_size]; exact hx) hl
  rw [strOfNums_size, nums_strOf' x hb, List.append_assoc] at this
  exact this
theorem Ow.shape' {w : World} {v : Value} {l : List Int} (h : Ow w v l) : ∃ A n c, v = .slice A n c ∧ n = l.length := by
  obtain ⟨A, c, h, _⟩ := h.shape
  exact ⟨A, _, c, h, rfl⟩
theorem strBy_len (l : List Int) : (strBy l).length ≤ l.length + 9 := by
  have := numE_len l.length
  unfold strBy
  rw [List.length_append]
  omega

/-- Put's loop over the three texts. -/
def CpI (w0 : World) (v0 : Value) (M3 key old new : List Int) (v i : Value) (wr : World) : Prop :=
  ∃ (q : Int) (L : List Int), i = .int .i64 q ∧ OwTo w0 v0 L wr v ∧ (q = 0 ∧ L = M3 ∨ q = 1 ∧ L = M3 ++ strBy key ∨ q = 2 ∧ L = M3 ++ strBy key ++ strBy old ∨ q = 3 ∧ L = M3 ++ strBy key ++ strBy old ++ strBy new)

set_option maxRecDepth 100000 in
set_option maxHeartbeats 8000000 in
theorem cput_any {w : World} {v : Value} {l : List Int} (h : Ow w v l) (c : Cm) (hw : WfC c) (hl : l.length ≤ 100000000) (hs : c.key.length ≤ 100000000 ∧ c.old.length ≤ 100000000 ∧ c.new.length ≤ 100000000) :
    Calls Try.prog 42 #[v, cmdV c] w fun e w' => ∃ v', e = .returned v' ∧ OwTo w v (l ++ cmdBy c) w' v' := by
  obtain ⟨client, seq, kind, key, old, new, set⟩ := c
  obtain ⟨⟨_, _⟩, ⟨q0, q1⟩, _, b1, b2, b3, _⟩ := hw
  dsimp only at q0 q1 b1 b2 b3 hs
  obtain ⟨hs1, hs2, hs3⟩ := hs
  obtain ⟨sq, rfl⟩ : ∃ sq : Nat, seq = (sq : Int) := ⟨seq.toNat, by omega⟩
  unfold cmdV cmdBy
  dsimp only
  rw [Int.toNat_natCast]
  obtain ⟨i0, hi0, hz0, hz1, hz2⟩ := info_parts infoB
  have hE := numE_len sq
  have k1 := strBy_len key
  have k2 := strBy_len old
  have k3 := strBy_len new
  obtain ⟨M1, hM1⟩ : ∃ M, l ++ [client] = M := ⟨_, rfl⟩
  obtain ⟨M2, hM2⟩ : ∃ M, M1 ++ numE sq = M := ⟨_, rfl⟩
  obtain ⟨M3, hM3⟩ : ∃ M, M2 ++ [kind] = M := ⟨_, rfl⟩
  have hl1 : M1.length ≤ 100000001 := by rw [← hM1]; simp; omega
  have hl2 : M2.length ≤ 100000010 := by rw [← hM2]; simp; omega
  have hl3 : M3.length ≤ 100000011 := by rw [← hM3]; simp; omega
  obtain ⟨R, hR⟩ : ∃ R, l ++ ([client] ++ numE sq ++ [kind] ++ strBy key ++ strBy old ++ strBy new ++ [set]) = R := ⟨_, rfl⟩
  rw [hR]
  have HLST : Hid (R = M3 ++ strBy key ++ strBy old ++ strBy new ++ [set]) := by
    show _ = _
    rw [← hR, ← hM3, ← hM2, ← hM1]
    simp only [List.append_assoc]
  have HST : Hid (∀ (wx : World) (vx : Value) (lx x : List Int), Ow wx vx lx → (x = key ∨ x = old ∨ x = new) → lx.length ≤ 1000000000 → Calls Try.prog 54 #[vx, .string (strOfNums x)] wx fun e w' => ∃ v', e = .returned v' ∧ OwTo wx vx (lx ++ strBy x) w' v') := fun wx vx lx x ho hx hlx => by
    rcases hx with rfl | rfl | rfl
    · exact wstr_of ho _ b1 (by omega) hlx
    · exact wstr_of ho _ b2 (by omega) hlx
    · exact wstr_of ho _ b3 (by omega) hlx
  have HM1 := Lib.hid hM1
  have HM2 := Lib.hid hM2
  have HM3 := Lib.hid hM3
  have HO := Lib.hid h
  obtain ⟨A, c, rfl, hnc, hcm⟩ := h.shape
  have hsq : sq < 18446744073709551616 := by omega
  have HSQ := Lib.hid hsq
  clear h hR hM1 hM2 hM3 b1 b2 b3 hsq
  go_enter Try.func42, Try.ntmps42
  go_wp2_with fail
  have hb0 := Blk.new w 30 #[.int .u8 client, .int .u32 (sq : Int), .int .u8 kind, .string (strOfNums key), .string (strOfNums old), .string (strOfNums new), .int .u8 set]
  have hw0 : Upd (fun _ => False) w (w.alloc (.cells #[.int .u8 client, .int .u32 (sq : Int), .int .u8 kind, .string (strOfNums key), .string (strOfNums old), .string (strOfNums new), .int .u8 set] 30)) := (Upd.refl _ _).alloc _
  generalize w.alloc (.cells #[.int .u8 client, .int .u32 (sq : Int), .int .u8 kind, .string (strOfNums key), .string (strOfNums old), .string (strOfNums new), .int .u8 set] 30) = w0 at *
  have HB0 := Lib.hid hb0
  have HU0 := Lib.hid (HO.out.still hw0)
  have HOB : Hid (∀ k, Value.ownBlock (.slice A l.length c) = some k → k ≠ w.heap.size) := fun k hk e => by have := (HO.out.lt k hk).2; omega
  have KS : Hid (∀ wx, Upd (fun b => Value.ownBlock (.slice A l.length c) = some b) w0 wx → Blk wx w.heap.size 30 #[.int .u8 client, .int .u32 (sq : Int), .int .u8 kind, .string (strOfNums key), .string (strOfNums old), .string (strOfNums new), .int .u8 set]) := fun wx hu => HB0.out.upd hu (fun h => HOB.out _ h rfl)
  have zz0 : w0.cell? ⟨w.heap.size, 0, none⟩ = some (.int .u8 client) := hb0.cell 0
  have zz1 : w0.cell? ⟨w.heap.size, 1, none⟩ = some (.int .u32 (sq : Int)) := hb0.cell 1
  have hwr : IntKind.u64.wrap (sq : Int) = (sq : Int) := IntWalk.u64_in _ ⟨by omega, by have := HSQ.out; omega⟩
  have hl1' : M1.length ≤ 1000000000 := by omega
  have HN := Lib.hid (fun (wx : World) (vx : Value) (hx : Ow wx vx M1) => wnum_any hx sq HSQ.out hl1')
  clear hb0 hw0 hl1'
  go_region_held3 (fun wx => wx.cell? ⟨w.heap.size, 0, none⟩ = some (.int .u8 client) ∧ wx.cell? ⟨w.heap.size, 1, none⟩ = some (.int .u32 (sq : Int)))
    (first
      | exact ⟨zz0, zz1⟩
      | exact ⟨(HB0.out.alloc _).cell 0, (HB0.out.alloc _).cell 1⟩
      | exact ⟨(KS.out _ HO1.out.2.1).cell 0, (KS.out _ HO1.out.2.1).cell 1⟩
      | exact ⟨(KS.out _ HO2.out.2.1).cell 0, (KS.out _ HO2.out.2.1).cell 1⟩
      | fail)
    (first
      | (go_at_call 32
         have hq1 := HO1.out.1
         (with_reducible refine (HN.out _ _ hq1).mono ?_)
         clear hq1
         rintro e w2 ⟨v2, rfl, ho2⟩
         rw [HM2.out] at ho2
         obtain ⟨A2, c2, rfl, _, _⟩ := ho2.1.shape
         have HO2 := Lib.hid (HO1.out.trans ho2)
         clear ho2)
      | (refine step_append_sl _ (by rfl) (.tmp 7) (.tmp 10) _ (by rfl) 5 i0 (.int .u8 0) 1 1 Try.underlying23 hi0 hz0 hz1 hz2 rfl (by omega) (.slice A l.length c) l.length (l.map (Value.int .u8)) (by rfl) (by first | exact (HU0.out.1.still (((Upd.refl _ _).alloc _).drew)).1 | exact (HU0.out.1.still (((Upd.refl _ _).drew.alloc _))).1) _ _ 1 [.int .u8 client] (by rfl) (by exact Sl.one _ _ _) (by simp [Value.oneCell']) (by simp only [maxLen]; omega) (by omega) ?_
         intro v1 w1 hown1 hg1 hat1
         have ho1 : OwTo w0 (.slice A l.length c) (l ++ [client]) w1 v1 := by first | exact OwTo.app (m := [client]) (HU0.out.1.still (((Upd.refl _ _).alloc _).drew)) hown1 hg1 hat1 | exact OwTo.app (m := [client]) (HU0.out.1.still (((Upd.refl _ _).drew.alloc _))) hown1 hg1 hat1
         rw [HM1.out] at ho1
         obtain ⟨A1, c1, rfl, _, _⟩ := ho1.1.shape
         have HO1 := Lib.hid ho1
         clear hown1 hg1 hat1 ho1)
      | fail)
  have hk2 := KS.out _ HO2.out.2.1
  have zz2 : w2.cell? ⟨w.heap.size, 2, none⟩ = some (.int .u8 kind) := hk2.cell 2
  clear hk2 hwr zz0 zz1
  go_wp2_with (first
    | (at_builtin
       go_must (refine wpList_append_sl _ rfl (.tmp 16) (.tmp 19) _ rfl 5 i0 (.int .u8 0) 1 1 Try.underlying23 hi0 hz0 hz1 hz2 rfl (by omega) (.slice A2 M2.length c2) M2.length (M2.map (Value.int .u8)) rfl (HO2.out.1.still ((Upd.refl _ _).alloc _)).1 _ _ 1 [.int .u8 kind] rfl (Sl.one _ _ _) (by simp [Value.oneCell']) (by simp only [maxLen]; omega) (by omega) ?_)
       intro v3 w3 hown3 hg3 hat3
       have ho3 : OwTo w0 (.slice A l.length c) (M2 ++ [kind]) w3 v3 := OwTo.app (m := [kind]) (HO2.out.trans (HO2.out.1.still ((Upd.refl _ _).alloc _))) hown3 hg3 hat3
       rw [HM3.out] at ho3
       obtain ⟨A3, c3, rfl, _, _⟩ := ho3.1.shape
       have hk3 := KS.out _ ho3.2.1
       have d3 : w3.cell? ⟨w.heap.size, 3, none⟩ = some (.string (strOfNums key)) := hk3.cell 3
       have d4 : w3.cell? ⟨w.heap.size, 4, none⟩ = some (.string (strOfNums old)) := hk3.cell 4
       have d5 : w3.cell? ⟨w.heap.size, 5, none⟩ = some (.string (strOfNums new)) := hk3.cell 5
       have HO3 := Lib.hid ho3
       clear hown3 hg3 hat3 ho3 hk3))
  clear d3 d4 d5 zz2
  go_loopw [0, 28] (fun v i wr => CpI w0 (.slice A l.length c) M3 key old new v i wr) (fun _ i _ => 3 - (intOf i).toNat)
  case atStart => exact ⟨0, M3, rfl, HO3.out, .inl ⟨rfl, rfl⟩⟩
  case round =>
    obtain ⟨q, L, rfl, ho, hq⟩ := hrel
    rcases hq with ⟨rfl, hL⟩ | ⟨rfl, hL⟩ | ⟨rfl, hL⟩ | ⟨rfl, hL⟩
    · have hLl : L.length ≤ 1000000000 := by rw [hL]; omega
      have HL := Lib.hid hL
      obtain ⟨Av, cv, rfl, _, _⟩ := ho.1.shape
      have HOL := Lib.hid ho
      have hix : ∀ wx, (Instr.index 103 (.agg #[.string (strOfNums key), .string (strOfNums old), .string (strOfNums new)]) (.int .i64 0)).run Try.prog wx = .ok (.string (strOfNums key)) wx := fun wx => by kernel_rfl
      have hcl := Lib.hid (HST.out wr _ L key ho.1 (by simp) hLl)
      clear hL ho
      go_wp2_with fail
      (with_reducible refine hcl.out.mono ?_)
      rintro e w4 ⟨v4, rfl, ho4⟩
      have HO4 := Lib.hid (HOL.out.trans ho4)
      clear ho4
      go_wp2_with fail
      go_roundw
      case rel => exact ⟨1, L ++ strBy key, by go_num, HO4.out, .inr (.inl ⟨rfl, by rw [HL.out]⟩)⟩
      case measure => simp [intOf]
    · have hLl : L.length ≤ 1000000000 := by rw [hL]; rw [List.length_append]; omega
      have HL := Lib.hid hL
      obtain ⟨Av, cv, rfl, _, _⟩ := ho.1.shape
      have HOL := Lib.hid ho
      have hix : ∀ wx, (Instr.index 103 (.agg #[.string (strOfNums key), .string (strOfNums old), .string (strOfNums new)]) (.int .i64 1)).run Try.prog wx = .ok (.string (strOfNums old)) wx := fun wx => by kernel_rfl
      have hcl := Lib.hid (HST.out wr _ L old ho.1 (by simp) hLl)
      clear hL ho
      go_wp2_with fail
      (with_reducible refine hcl.out.mono ?_)
      rintro e w4 ⟨v4, rfl, ho4⟩
      have HO4 := Lib.hid (HOL.out.trans ho4)
      clear ho4
      go_wp2_with fail
      go_roundw
      case rel => exact ⟨2, L ++ strBy old, by go_num, HO4.out, .inr (.inr (.inl ⟨rfl, by rw [HL.out]⟩))⟩
      case measure => simp [intOf]
    · have hLl : L.length ≤ 1000000000 := by rw [hL]; rw [List.length_append, List.length_append]; omega
      have HL := Lib.hid hL
      obtain ⟨Av, cv, rfl, _, _⟩ := ho.1.shape
      have HOL := Lib.hid ho
      have hix : ∀ wx, (Instr.index 103 (.agg #[.string (strOfNums key), .string (strOfNums old), .string (strOfNums new)]) (.int .i64 2)).run Try.prog wx = .ok (.string (strOfNums new)) wx := fun wx => by kernel_rfl
      have hcl := Lib.hid (HST.out wr _ L new ho.1 (by simp) hLl)
      clear hL ho
      go_wp2_with fail
      (with_reducible refine hcl.out.mono ?_)
      rintro e w4 ⟨v4, rfl, ho4⟩
      have HO4 := Lib.hid (HOL.out.trans ho4)
      clear ho4
      go_wp2_with fail
      go_roundw
      case rel => exact ⟨3, L ++ strBy new, by go_num, HO4.out, .inr (.inr (.inr ⟨rfl, by rw [HL.out]⟩))⟩
      case measure => simp [intOf]
    · have hLl : L.length ≤ 1000000000 := by rw [hL, List.length_append, List.length_append, List.length_append]; omega
      have HL := Lib.hid hL
      obtain ⟨Av, cv, rfl, _, _⟩ := ho.1.shape
      have HOL := Lib.hid ho
      have hk6 := KS.out _ ho.2.1
      have d6 : wr.cell? ⟨w.heap.size, 6, none⟩ = some (.int .u8 set) := hk6.cell 6
      clear hL ho hk6
      go_wp2_with (first
        | (at_builtin
           go_must (refine wpList_append_sl _ rfl (.tmp 35) (.tmp 38) _ rfl 5 i0 (.int .u8 0) 1 1 Try.underlying23 hi0 hz0 hz1 hz2 rfl (by omega) (.slice Av L.length cv) L.length (L.map (Value.int .u8)) rfl (HOL.out.1.still ((Upd.refl _ _).alloc _)).1 _ _ 1 [.int .u8 set] rfl (Sl.one _ _ _) (by simp [Value.oneCell']) (by simp only [maxLen]; omega) (by omega) ?_)
           intro v5 w5 hown5 hg5 hat5
           have ho5 : OwTo w0 (.slice A l.length c) (L ++ [set]) w5 v5 := OwTo.app (m := [set]) (HOL.out.trans (HOL.out.1.still ((Upd.refl _ _).alloc _))) hown5 hg5 hat5
           have HO5 := Lib.hid ho5
           clear hown5 hg5 hat5 ho5))
      go_ret
      refine ⟨_, rfl, ?_⟩
      rw [HLST.out, ← HL.out]
      exact HU0.out.trans HO5.out
end Go.Proofs.Ytaielcokfpodaaa
